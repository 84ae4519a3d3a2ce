/-
  A flow written, in plain words: the places of a symbol, the state ahead of a state, the bits of a row of symbols; and that it is read back. (No walk is done here.)
-/
import Derived.Test.YtophgpnnjphnmaaGreatQ1
import Derived.Test.YtophgpnnjphnmaaGreatQ16
import Derived.Test.YtophgpnnjphnmaaGreatQ18
import Derived.Test.YtophgpnnjphnmaaGreatQ21
namespace Go.Proofs.YtophgpnnjphnmaaGreat
set_option linter.unusedVariables false
set_option linter.unusedSimpArgs false

/-- The places of a symbol, in order. -/
def placesOf (g : Nat) (norm : List Int) (s : Nat) : List Nat := (List.range (2 ^ g)).filter (fun p => placeN g norm p == s)

theorem filter_len_count {α : Type} [BEq α] [LawfulBEq α] (f : Nat → α) (s : α) : ∀ L : List Nat, (L.filter (fun p => f p == s)).length = (L.map f).count s
  | [] => rfl
  | p :: L => by
    have := filter_len_count f s L
    rw [List.map_cons, List.count_cons, List.filter_cons]
    split
    · rw [List.length_cons, this]
    · rw [this]; rfl
theorem count_nodup_range (P : Nat → Bool) (s n : Nat) : ((List.range n).filter P).count s = if s < n ∧ P s = true then 1 else 0 := by
  induction n with
  | zero => simp
  | succ n ih =>
    rw [List.range_succ, List.filter_append, List.count_append, ih, List.filter_cons, List.filter_nil]
    by_cases hs : s = n
    · subst hs
      rw [if_neg (by omega)]
      cases h : P s <;> simp
    · have hne : (if P n = true then [n] else []).count s = 0 := by
        split
        · rw [List.count_cons, List.count_nil, if_neg (by simpa using fun h => hs h.symm)]
        · rfl
      rw [hne, Nat.add_zero]
      by_cases h : s < n ∧ P s = true
      · rw [if_pos h, if_pos ⟨by omega, h.2⟩]
      · rw [if_neg h, if_neg (fun h2 => h ⟨by omega, h2.2⟩)]
theorem count_others (f : Nat → Nat) (s n : Nat) : ((List.range n).flatMap fun i => List.replicate (f i) i).count s = if s < n then f s else 0 := by
  induction n with
  | zero => simp
  | succ n ih =>
    rw [List.range_succ, List.flatMap_append, List.count_append, ih, List.flatMap_cons, List.flatMap_nil, List.append_nil, List.count_replicate]
    by_cases hs : s = n
    · subst hs
      simp
    · have : ¬ (n == s) = true := by simpa using fun h => hs h.symm
      rw [if_neg this, Nat.add_zero]
      by_cases h : s < n
      · rw [if_pos h, if_pos (by omega)]
      · rw [if_neg h, if_neg (by omega)]
theorem map_idxOf (fr others : List Nat) (hn : fr.Nodup) (hl : fr.length = others.length) : fr.map (fun p => others.getD (fr.idxOf p) 0) = others := by
  apply List.ext_getElem
  · simpa using hl
  · intro i h1 h2
    rw [List.getElem_map]
    have hi : i < fr.length := by simpa using h1
    have : fr.idxOf fr[i] = i := List.Nodup.idxOf_getElem hn i hi
    rw [this, List.getD_eq_getElem?_getD, List.getElem?_eq_getElem h2]
    rfl
theorem range_map_rev (L : List Nat) : ∀ k, k = L.length → (List.range k).map (fun p => L.getD (k - 1 - p) 0) = L.reverse := by
  intro k hk
  subst hk
  apply List.ext_getElem
  · simp
  · intro i h1 h2
    have hi : i < L.length := by simpa using h1
    rw [List.getElem_map, List.getElem_range, List.getElem_reverse, List.getD_eq_getElem?_getD, List.getElem?_eq_getElem (by omega)]
    rfl
theorem free_nodup {g top : Nat} (h : g ≤ 9) : (freeN (2 ^ g) top (2 ^ g)).Nodup := (visit_nodup h).filter _
theorem free_perm {g top : Nat} (h : g ≤ 9) (ht : top ≤ 2 ^ g) : (freeN (2 ^ g) top (2 ^ g)).Perm (List.range top) :=
  (List.perm_ext_iff_of_nodup (free_nodup h) List.nodup_range).2 fun p => by
    constructor
    · intro hp
      exact List.mem_range.2 (mem_free.1 hp).2
    · intro hp
      exact free_all h (List.mem_range.1 hp) ht
/-- A symbol has as many places as states. -/
theorem places_count {g s : Nat} {norm : List Int} (h : TblOk g norm) (hs : s < norm.length) : (placesL g norm).count s = (stN (norm.getD s 0)).toNat := by
  have hlen := h.lens
  have hg := h.g9
  obtain ⟨k, hk⟩ : ∃ k, (lowsL norm).length = k := ⟨_, rfl⟩
  rw [hk] at hlen
  obtain ⟨top, htop⟩ : ∃ t, 2 ^ g - k = t := ⟨_, rfl⟩
  have hsplit : List.range (2 ^ g) = List.range top ++ (List.range k).map (fun j => top + j) := by
    rw [show 2 ^ g = top + k by omega, List.range_add]
  unfold placesL
  rw [hsplit, List.map_append, List.count_append, List.map_map]
  have h1 : (List.range top).map (placeN g norm) = (List.range top).map (fun p => (othersL norm).getD ((freeN (2 ^ g) top (2 ^ g)).idxOf p) 0) := by
    apply List.map_congr_left
    intro p hp
    have hp := List.mem_range.1 hp
    unfold placeN
    rw [hk, htop, if_neg (by omega)]
  have h2 : (List.range k).map (placeN g norm ∘ fun j => top + j) = (List.range k).map (fun p => (lowsL norm).getD (k - 1 - p) 0) := by
    apply List.map_congr_left
    intro p hp
    have hp := List.mem_range.1 hp
    show placeN g norm (top + p) = _
    unfold placeN
    rw [hk, htop, if_pos (by omega), show 2 ^ g - 1 - (top + p) = k - 1 - p by omega]
  have hc1 : ((List.range top).map (fun p => (othersL norm).getD ((freeN (2 ^ g) top (2 ^ g)).idxOf p) 0)).count s = (othersL norm).count s := by
    have hp := (free_perm (top := top) hg (by omega)).map (fun p => (othersL norm).getD ((freeN (2 ^ g) top (2 ^ g)).idxOf p) 0)
    rw [← hp.count_eq, map_idxOf _ _ (free_nodup hg) (by rw [free_len hg (by omega)]; omega)]
  rw [h1, h2, hc1, range_map_rev _ _ hk.symm, List.count_reverse]
  have e1 : (othersL norm).count s = (norm.getD s 0).toNat := by
    unfold othersL
    rw [count_others, if_pos hs]
  have e2 : (lowsL norm).count s = if norm.getD s 0 = -1 then 1 else 0 := by
    unfold lowsL
    rw [count_nodup_range]
    by_cases hq : norm.getD s 0 = -1
    · rw [if_pos ⟨hs, by simpa using hq⟩, if_pos hq]
    · rw [if_neg (fun h => hq (by simpa using h.2)), if_neg hq]
  have hlow := h.low
  rw [e1, e2]
  unfold stN
  by_cases hq : norm.getD s 0 = -1
  · rw [if_pos hq, if_pos hq, hq]; rfl
  · rw [if_neg hq, if_neg hq]; rfl
theorem placesOf_len {g s : Nat} {norm : List Int} (h : TblOk g norm) (hs : s < norm.length) : (placesOf g norm s).length = (stN (norm.getD s 0)).toNat := by
  rw [← places_count h hs, placesOf, filter_len_count]
  rfl
/-- So many of those that pass lie ahead of the j-th. -/
theorem filter_before (P : Nat → Bool) : ∀ (n j p : Nat), ((List.range n).filter P)[j]? = some p → ((List.range p).filter P).length = j ∧ p < n ∧ P p = true
  | 0, j, p, h => by simp at h
  | n + 1, j, p, h => by
    rw [List.range_succ, List.filter_append] at h
    by_cases hj : j < ((List.range n).filter P).length
    · rw [List.getElem?_append_left hj] at h
      obtain ⟨h1, h2, h3⟩ := filter_before P n j p h
      exact ⟨h1, by omega, h3⟩
    · rw [List.getElem?_append_right (by omega), List.filter_cons, List.filter_nil] at h
      split at h
      · rename_i hP
        have hj0 : j - ((List.range n).filter P).length = 0 := by
          by_cases h0 : j - ((List.range n).filter P).length = 0
          · exact h0
          · obtain ⟨m, hm⟩ : ∃ m, j - ((List.range n).filter P).length = m + 1 := ⟨_, (Nat.succ_pred_eq_of_ne_zero h0).symm⟩
            rw [hm] at h; simp at h
        rw [hj0] at h
        simp at h
        subst h
        exact ⟨by omega, by omega, hP⟩
      · simp at h
/-- The number that the cell of a symbol's j-th place is made of. -/
theorem cellX_of {g s j p : Nat} {norm : List Int} (hp : (placesOf g norm s)[j]? = some p) : placeN g norm p = s ∧ p < 2 ^ g ∧ cellX g norm p = (stN (norm.getD s 0)).toNat + j := by
  obtain ⟨h1, h2, h3⟩ := filter_before _ _ _ _ hp
  have hs : placeN g norm p = s := by simpa using h3
  refine ⟨hs, h2, ?_⟩
  unfold cellX
  rw [hs]
  congr 1
  rw [← h1, filter_len_count]
  unfold placesL
  rw [← List.map_take, List.take_range, Nat.min_eq_left (by omega)]

/-- How many bits are written so that what is left of x lies below 2 m. -/
def nFind : Nat → Nat → Nat → Nat → Nat
  | 0, _, _, n => n
  | f + 1, x, m, n => if 2 * m ≤ x / 2 ^ n then nFind f x m (n + 1) else n
theorem nFind_ok {x m : Nat} (hm : 1 ≤ m) : ∀ (f n : Nat), m ≤ x / 2 ^ n → x < 2 ^ (n + f) → n ≤ nFind f x m n ∧ m ≤ x / 2 ^ nFind f x m n ∧ x / 2 ^ nFind f x m n < 2 * m
  | 0, n, h1, h2 => by
    rw [Nat.add_zero] at h2
    rw [Nat.div_eq_of_lt h2] at h1
    omega
  | f + 1, n, h1, h2 => by
    unfold nFind
    split
    · rename_i h
      have e : x / 2 ^ (n + 1) = x / 2 ^ n / 2 := by rw [Nat.pow_succ, Nat.div_div_eq_div_mul]
      obtain ⟨g1, g2, g3⟩ := nFind_ok hm f (n + 1) (by rw [e]; omega) (by rw [show n + 1 + f = n + (f + 1) by omega]; exact h2)
      exact ⟨by omega, g2, g3⟩
    · exact ⟨Nat.le_refl _, h1, by omega⟩

/-- The lowest place of a symbol. -/
def lowN (g : Nat) (norm : List Int) (s : Nat) : Nat := (placesOf g norm s).getD 0 0
/-- How many bits lie between a state and the one ahead of it, at symbol s. -/
def predB (g : Nat) (norm : List Int) (z s : Nat) : Nat := nFind 10 (z + 2 ^ g) (placesOf g norm s).length 0
/-- The state ahead of state z, at symbol s. -/
def predS (g : Nat) (norm : List Int) (z s : Nat) : Nat := (placesOf g norm s).getD ((z + 2 ^ g) / 2 ^ predB g norm z s - (placesOf g norm s).length) 0
/-- The bits that are written in between. -/
def predV (g : Nat) (norm : List Int) (z s : Nat) : Nat := (z + 2 ^ g) % 2 ^ predB g norm z s

theorem predB_ok {g z s : Nat} {norm : List Int} (h : TblOk g norm) (hs : s < norm.length) (h0 : norm.getD s 0 ≠ 0) (hz : z < 2 ^ g) :
    1 ≤ (placesOf g norm s).length ∧ (placesOf g norm s).length ≤ (z + 2 ^ g) / 2 ^ predB g norm z s ∧ (z + 2 ^ g) / 2 ^ predB g norm z s < 2 * (placesOf g norm s).length ∧ predB g norm z s ≤ g := by
  have hx : norm[s]? = some (norm.getD s 0) := by rw [List.getD_eq_getElem?_getD, List.getElem?_eq_getElem hs]; rfl
  have hl := h.low _ (List.mem_of_getElem? hx)
  have ht := stN_top h hx
  have hlen := placesOf_len h hs
  have hst : 1 ≤ (placesOf g norm s).length := by rw [hlen]; unfold stN; split <;> omega
  have hle : (placesOf g norm s).length ≤ 2 ^ g := by rw [hlen]; omega
  have h9 : 2 ^ g ≤ 2 ^ 9 := Nat.pow_le_pow_right (by decide) h.g9
  have h10 : (2 : Nat) ^ 10 = 1024 := by decide
  rw [show (2 : Nat) ^ 9 = 512 by decide] at h9
  obtain ⟨-, g2, g3⟩ := nFind_ok (x := z + 2 ^ g) hst 10 0 (by simp; omega) (by omega)
  refine ⟨hst, g2, g3, ?_⟩
  show predB g norm z s ≤ g
  unfold predB
  by_cases hb : nFind 10 (z + 2 ^ g) (placesOf g norm s).length 0 ≤ g
  · exact hb
  · exfalso
    have h2 : 2 * 2 ^ g ≤ 2 ^ nFind 10 (z + 2 ^ g) (placesOf g norm s).length 0 := by
      have := Nat.pow_le_pow_right (n := 2) (by decide) (show g + 1 ≤ nFind 10 (z + 2 ^ g) (placesOf g norm s).length 0 by omega)
      rw [Nat.pow_succ] at this
      omega
    rw [Nat.div_eq_of_lt (by omega)] at g2
    omega
theorem log2_div {x g N : Nat} (h1 : 2 ^ g ≤ x) (h2 : x < 2 * 2 ^ g) (hN : N ≤ g) : (x / 2 ^ N).log2 = g - N := by
  have hp : 0 < 2 ^ N := Nat.pow_pos (by decide)
  have e : 2 ^ g = 2 ^ (g - N) * 2 ^ N := by rw [← Nat.pow_add, Nat.sub_add_cancel hN]
  have hl : 2 ^ (g - N) ≤ x / 2 ^ N := (Nat.le_div_iff_mul_le hp).2 (by rw [← e]; exact h1)
  have hu : x / 2 ^ N < 2 ^ (g - N + 1) := by
    rw [Nat.div_lt_iff_lt_mul hp, Nat.pow_succ, Nat.mul_comm (2 ^ (g - N)) 2, Nat.mul_assoc, ← e]
    exact h2
  have h0 : x / 2 ^ N ≠ 0 := by
    have : 0 < 2 ^ (g - N) := Nat.pow_pos (by decide)
    omega
  apply Nat.le_antisymm
  · have := (Nat.log2_lt h0).2 hu
    omega
  · exact (Nat.le_log2 h0).2 hl
/-- The state ahead leads back. -/
theorem pred_cel {g z s : Nat} {norm : List Int} (h : TblOk g norm) (hs : s < norm.length) (h0 : norm.getD s 0 ≠ 0) (hz : z < 2 ^ g) :
    (celP g norm (predS g norm z s)).1 = s ∧ (celP g norm (predS g norm z s)).2.1 = predB g norm z s ∧ (celP g norm (predS g norm z s)).2.2 + predV g norm z s = z ∧ predS g norm z s < 2 ^ g ∧ predV g norm z s < 2 ^ predB g norm z s := by
  obtain ⟨p1, p2, p3, p4⟩ := predB_ok h hs h0 hz
  obtain ⟨N, hN⟩ : ∃ N, predB g norm z s = N := ⟨_, rfl⟩
  obtain ⟨M, hM⟩ : ∃ M, (placesOf g norm s).length = M := ⟨_, rfl⟩
  obtain ⟨y, hy⟩ : ∃ y, (z + 2 ^ g) / 2 ^ N = y := ⟨_, rfl⟩
  rw [hN, hM, hy] at p2 p3
  rw [hN] at p4
  rw [hM] at p1
  have hj : y - M < (placesOf g norm s).length := by omega
  obtain ⟨p, hp⟩ : ∃ p, (placesOf g norm s)[y - M]? = some p := ⟨_, List.getElem?_eq_getElem hj⟩
  have hS : predS g norm z s = p := by
    unfold predS
    rw [hN, hM, hy, List.getD_eq_getElem?_getD, hp]; rfl
  obtain ⟨q1, q2, q3⟩ := cellX_of hp
  have hX : cellX g norm p = y := by rw [q3, ← placesOf_len h hs, hM]; omega
  have hlog : y.log2 = g - N := by rw [← hy]; exact log2_div (by omega) (by omega) p4
  have hpos : 0 < 2 ^ N := Nat.pow_pos (by decide)
  have hdm := Nat.div_add_mod (z + 2 ^ g) (2 ^ N)
  rw [hy, Nat.mul_comm] at hdm
  have hyg : 2 ^ g ≤ y * 2 ^ N := by
    have e : 2 ^ g = 2 ^ (g - N) * 2 ^ N := by rw [← Nat.pow_add, Nat.sub_add_cancel p4]
    rw [e]
    refine Nat.mul_le_mul_right _ ?_
    rw [← hlog]
    exact (Nat.le_log2 (by omega)).1 (Nat.le_refl _)
  have hml := Nat.mod_lt (z + 2 ^ g) hpos
  unfold predV
  rw [hS, hN]
  unfold celP
  rw [hX, hlog, Nat.sub_sub_self p4]
  refine ⟨q1, rfl, ?_, q2, hml⟩
  simp only
  omega
theorem low_cel {g s : Nat} {norm : List Int} (h : TblOk g norm) (hs : s < norm.length) (h0 : norm.getD s 0 ≠ 0) : (celP g norm (lowN g norm s)).1 = s ∧ lowN g norm s < 2 ^ g := by
  have hx : norm[s]? = some (norm.getD s 0) := by rw [List.getD_eq_getElem?_getD, List.getElem?_eq_getElem hs]; rfl
  have hl := h.low _ (List.mem_of_getElem? hx)
  have hlen := placesOf_len h hs
  have hst : 0 < (placesOf g norm s).length := by rw [hlen]; unfold stN; split <;> omega
  obtain ⟨p, hp⟩ : ∃ p, (placesOf g norm s)[0]? = some p := ⟨_, List.getElem?_eq_getElem hst⟩
  obtain ⟨q1, q2, -⟩ := cellX_of hp
  have : lowN g norm s = p := by unfold lowN; rw [List.getD_eq_getElem?_getD, hp]; rfl
  rw [this]
  exact ⟨q1, q2⟩

/-- A row of symbols written, from its end: the state of the first one, that of the second, the bits. -/
def encG (g : Nat) (norm : List Int) : List Nat → Nat × Nat × List Bool
  | [] => (0, 0, [])
  | s :: rest => if rest.length < 2 then (lowN g norm s, (encG g norm rest).1, (encG g norm rest).2.2)
    else (predS g norm (encG g norm rest).2.1 s, (encG g norm rest).1, (encG g norm rest).2.2 ++ bitsN (predV g norm (encG g norm rest).2.1 s) (predB g norm (encG g norm rest).2.1 s))
/-- All symbols have states. -/
def symsOk (norm : List Int) (l : List Nat) : Prop := ∀ s ∈ l, s < norm.length ∧ norm.getD s 0 ≠ 0
theorem encG_lt {g : Nat} {norm : List Int} (h : TblOk g norm) : ∀ {l : List Nat}, symsOk norm l → (encG g norm l).1 < 2 ^ g ∧ (encG g norm l).2.1 < 2 ^ g
  | [], _ => ⟨Nat.pow_pos (by decide), Nat.pow_pos (by decide)⟩
  | s :: rest, hl => by
    obtain ⟨i1, i2⟩ := encG_lt h (l := rest) (fun x hx => hl x (by simp [hx]))
    obtain ⟨s1, s2⟩ := hl s (by simp)
    unfold encG
    split
    · exact ⟨(low_cel h s1 s2).2, i1⟩
    · exact ⟨(pred_cel h s1 s2 i2).2.2.2.1, i1⟩
theorem tb_bits {v n : Nat} {R : List Bool} (h : v < 2 ^ n) : tb (R ++ bitsN v n) n = .ok (v, R) := by
  have hl := bitsN_len v n
  have e : (R ++ bitsN v n).length - n = R.length := by rw [List.length_append, hl]; omega
  rw [tb_ok (by rw [List.length_append]; omega), e, List.drop_left' rfl, List.take_left' rfl, valL_bitsN, Nat.mod_eq_of_lt h]
/-- What is written is read back. -/
theorem flowG_encG {g : Nat} {norm : List Int} (h : TblOk g norm) : ∀ (l : List Nat) (oth : Nat) (out : List Int), symsOk norm l → (2 ≤ l.length → oth = (encG g norm l).2.1) →
    flowG (celP g norm) l.length (encG g norm l).2.2 (encG g norm l).1 oth out = .ok (out ++ l.map (fun (s : Nat) => (s : Int)))
  | [], oth, out, _, _ => by simp [flowG, encG]
  | s :: rest, oth, out, hl, ho => by
    have hr : symsOk norm rest := fun x hx => hl x (by simp [hx])
    obtain ⟨s1, s2⟩ := hl s (by simp)
    obtain ⟨i1, i2⟩ := encG_lt h hr
    rw [List.length_cons, flowG]
    by_cases h2 : 2 ≤ rest.length
    · have ho := ho (by rw [List.length_cons]; omega)
      have e : encG g norm (s :: rest) = (predS g norm (encG g norm rest).2.1 s, (encG g norm rest).1, (encG g norm rest).2.2 ++ bitsN (predV g norm (encG g norm rest).2.1 s) (predB g norm (encG g norm rest).2.1 s)) := by
        rw [encG, if_neg (by omega)]
      obtain ⟨c1, c2, c3, c4, c5⟩ := pred_cel h s1 s2 i2
      rw [e] at ho ⊢
      simp only at ho ⊢
      rw [if_pos h2, c2, tb_bits c5]
      simp only
      rw [c1, c3, ho, flowG_encG h rest _ _ hr (fun _ => rfl)]
      simp
    · have e : encG g norm (s :: rest) = (lowN g norm s, (encG g norm rest).1, (encG g norm rest).2.2) := by
        rw [encG, if_pos (by omega)]
      rw [e]
      simp only
      rw [if_neg h2, (low_cel h s1 s2).1]
      by_cases h1 : rest = []
      · subst h1
        simp [flowG, encG]
      · have ho := ho (by
          have : 0 < rest.length := List.length_pos_iff.2 h1
          rw [List.length_cons]; omega)
        rw [e] at ho
        simp only at ho
        rw [ho, flowG_encG h rest _ _ hr (fun hh => (h2 hh).elim)]
        simp

/-- The bits of a flow, and its bytes. -/
def flowB (g : Nat) (norm : List Int) (l : List Nat) : List Bool :=
  (encG g norm l).2.2 ++ (if 2 ≤ l.length then bitsN (encG g norm l).2.1 g else []) ++ (if 1 ≤ l.length then bitsN (encG g norm l).1 g else [])
def flowE (g : Nat) (norm : List Int) (l : List Nat) : List Int := packB (flowB g norm l ++ [true])
theorem flowP_flowB {g : Nat} {norm : List Int} (h : TblOk g norm) {l : List Nat} (hl : symsOk norm l) : flowP (celP g norm) g l.length (flowB g norm l) = .ok (l.map (fun (s : Nat) => (s : Int))) := by
  obtain ⟨i1, i2⟩ := encG_lt h hl
  have hm := flowG_encG h l (encG g norm l).2.1 [] hl (fun _ => rfl)
  unfold flowP flowB
  by_cases h1 : 1 ≤ l.length
  · rw [if_pos (show 0 < l.length by omega), if_pos h1, tb_bits i1]
    simp only
    by_cases h2 : 2 ≤ l.length
    · rw [if_pos (show 1 < l.length by omega), if_pos h2, tb_bits i2]
      simp only
      simpa using hm
    · rw [if_neg (show ¬ 1 < l.length by omega), if_neg h2, List.append_nil]
      simp only
      have := flowG_encG h l 0 [] hl (fun hh => (h2 hh).elim)
      simpa using this
  · have h0 : l = [] := List.eq_nil_of_length_eq_zero (by omega)
    subst h0
    simp [flowG, encG]
/-- The mark of a closed row of bits. -/
theorem mark_top {L : List Bool} : (packB (L ++ [true])).getD ((packB (L ++ [true])).length - 1) 0 ≠ 0 ∧ topB (packB (L ++ [true])) = L.length ∧ bwdL (packB (L ++ [true])) (topB (packB (L ++ [true]))) = L := by
  obtain ⟨k, hk, hb, hlen, hB⟩ := packB_bits (L ++ [true])
  obtain ⟨B, hBe⟩ : ∃ B, packB (L ++ [true]) = B := ⟨_, rfl⟩
  rw [hBe] at hb hlen hB ⊢
  rw [List.length_append, List.length_singleton] at hlen
  have hrow : ∀ j : Nat, (rowBits B)[j]? = (L ++ [true] ++ List.replicate k false)[j]? := fun j => by rw [hb]
  have htrue : (rowBits B)[L.length]? = some true := by rw [hrow]; simp
  have hz : B.getD (B.length - 1) 0 ≠ 0 := by
    intro h0
    have hp : 0 < B.length := by omega
    obtain ⟨y, hy⟩ : ∃ y, B[B.length - 1]? = some y := ⟨_, List.getElem?_eq_getElem (by omega)⟩
    rw [List.getD_eq_getElem?_getD, hy] at h0
    have hy0 : y = 0 := h0
    subst hy0
    have hi : L.length = 8 * (B.length - 1) + (L.length - 8 * (B.length - 1)) := by omega
    have := rowBits_at hy (i := L.length - 8 * (B.length - 1)) (by omega)
    rw [← hi, htrue] at this
    have hz8 : ∀ i : Nat, i < 8 → (bitsN (0 : Int).toNat 8)[i]? = some false := by decide
    rw [hz8 _ (by omega)] at this
    cases this
  obtain ⟨t1, t2, t3⟩ := top_mark hB hz
  have ht : topB B = L.length := by
    rcases Nat.lt_trichotomy (topB B) L.length with hlt | heq | hgt
    · have := t3 L.length hlt (by omega)
      rw [htrue] at this
      cases this
    · exact heq
    · rw [hrow, List.getElem?_append_right (by rw [List.length_append, List.length_singleton]; omega), List.length_append, List.length_singleton] at t2
      have : topB B - (L.length + 1) < k := by omega
      rw [List.getElem?_replicate, if_pos this] at t2
      cases t2
  refine ⟨hz, ht, ?_⟩
  unfold bwdL
  rw [ht, hb, List.append_assoc, List.take_left' rfl]
/-- A flow is read back from its bytes. -/
theorem flowD_flowE {g : Nat} {norm : List Int} (h : TblOk g norm) (hok : okN (g : Int) norm 256 9 = true) {l : List Nat} (hl : symsOk norm l) : flowD (g : Int) norm (flowE g norm l) l.length = .ok (l.map (fun (s : Nat) => (s : Int))) := by
  obtain ⟨m1, -, m3⟩ := mark_top (L := flowB g norm l)
  unfold flowD flowE
  rw [if_neg (by rw [hok]; simp), if_neg m1, Int.toNat_natCast, m3]
  exact flowP_flowB h hl


end Go.Proofs.YtophgpnnjphnmaaGreat
