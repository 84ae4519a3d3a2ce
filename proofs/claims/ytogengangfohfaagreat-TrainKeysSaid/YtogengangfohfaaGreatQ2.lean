/-
  Plain laws of training: a heap of items; keys and what they are worth; the best piece first, again and again. No program is in sight here.
-/
import Derived.Test.YtogengangfohfaaGreatQ1
namespace Go.Proofs.YtogengangfohfaaGreat
set_option linter.unusedVariables false
set_option linter.unusedSimpArgs false
structure It where
  at' : Int
  worth : Int
  l : List Int
  deriving DecidableEq

def lessI (a b : It) : Bool := decide (a.worth > b.worth) || (decide (a.worth = b.worth) && decide (a.at' < b.at'))
def leI (a b : It) : Prop := lessI b a = false

theorem leI_trans {a b c : It} (h : leI a b) (k : leI b c) : leI a c := by
  simp [leI, lessI] at *
  omega
theorem leI_of_less {a b : It} (h : lessI a b = true) : leI a b := by
  simp [leI, lessI] at *
  omega
theorem leI_refl (a : It) : leI a a := by simp [leI, lessI]

def par (k : Nat) : Nat := (k - 1) / 2
/-- The element k. -/
def el (q : List It) (k : Nat) : It := q.getD k ⟨0, 0, []⟩
def swp (q : List It) (i j : Nat) : List It := (q.set i (el q j)).set j (el q i)

theorem swp_len (q : List It) (i j : Nat) : (swp q i j).length = q.length := by simp [swp]
theorem el_swp {q : List It} {i j k : Nat} (hi : i < q.length) (hj : j < q.length) : el (swp q i j) k = if k = j then el q i else if k = i then el q j else el q k := by
  simp only [el, swp, List.getD_eq_getElem?_getD, List.getElem?_set]
  by_cases h1 : k = j
  · subst h1; simp [hj]
  · have h1' : ¬ j = k := fun e => h1 e.symm
    by_cases h2 : k = i
    · subst h2; simp [h1, h1', hi]
    · have h2' : ¬ i = k := fun e => h2 e.symm
      simp [h1, h1', h2, h2']
theorem swp_perm {q : List It} {i j : Nat} (hi : i < q.length) (hj : j < q.length) : (swp q i j).Perm q := by
  rw [List.perm_iff_count]
  intro a
  have e1 : el q i = q[i] := by simp [el, List.getD_eq_getElem?_getD, hi]
  have e2 : el q j = q[j] := by simp [el, List.getD_eq_getElem?_getD, hj]
  rw [swp, e1, e2]
  rw [List.count_set (by simpa using hj), List.count_set hi]
  have c1 : 1 ≤ List.count q[i] q := List.one_le_count_iff.2 (List.getElem_mem hi)
  have c2 : 1 ≤ List.count q[j] q := List.one_le_count_iff.2 (List.getElem_mem hj)
  by_cases hij : i = j
  · subst hij
    simp
    by_cases h : q[i] = a
    · subst h; simp
    · simp [h]
  · simp only [List.getElem_set, hij, if_false]
    by_cases h1 : q[i] = a <;> by_cases h2 : q[j] = a
    · simp [h1, h2]; rw [h1] at c1; omega
    · simp [h1, h2]; rw [h1] at c1; omega
    · simp [h1, h2]
    · simp [h1, h2]

/-- The first n elements are a heap. -/
def HeapN (q : List It) (n : Nat) : Prop := ∀ k, 0 < k → k < n → leI (el q (par k)) (el q k)
def UpI (q : List It) (n j : Nat) : Prop :=
  (∀ k, 0 < k → k < n → k ≠ j → leI (el q (par k)) (el q k)) ∧ (∀ k, 0 < k → k < n → par k = j → 0 < j → leI (el q (par j)) (el q k))
def DownI (q : List It) (n i : Nat) : Prop :=
  (∀ k, 0 < k → k < n → par k ≠ i → leI (el q (par k)) (el q k)) ∧ (∀ k, 0 < k → k < n → par k = i → 0 < i → leI (el q (par i)) (el q k))

theorem up_root {q : List It} {n : Nat} (h : UpI q n 0) : HeapN q n := fun k h0 hk => h.1 k h0 hk (by omega)
theorem up_stop {q : List It} {n j : Nat} (h : UpI q n j) (hl : lessI (el q j) (el q (par j)) = false) : HeapN q n := fun k h0 hk => by
  by_cases e : k = j
  · subst e; exact hl
  · exact h.1 k h0 hk e
theorem up_step {q : List It} {n j : Nat} (h : UpI q n j) (hn : n ≤ q.length) (hj : j < n) (h0 : 0 < j) (hl : lessI (el q j) (el q (par j)) = true) : UpI (swp q (par j) j) n (par j) := by
  have hp : par j < j := by simp only [par]; omega
  have hle := leI_of_less hl
  constructor
  · intro k k0 kn kne
    rw [el_swp (by omega) (by omega), el_swp (by omega) (by omega)]
    by_cases e : k = j
    · subst e; simp [show ¬ par k = k by omega]; exact hle
    · by_cases e2 : par k = j
      · simp [e2, e, kne]; exact h.2 k k0 kn e2 h0
      · by_cases e3 : par k = par j
        · have e4 : ¬ par j = j := by omega
          simp [e3, e, kne, e4]
          exact leI_trans hle (e3 ▸ h.1 k k0 kn e)
        · simp [e2, e3, e, kne]; exact h.1 k k0 kn e
  · intro k k0 kn kp p0
    have hpp : par (par j) < par j := by simp only [par] at *; omega
    rw [el_swp (by omega) (by omega), el_swp (by omega) (by omega)]
    have e4 : ¬ par (par j) = j := by omega
    have e5 : ¬ par (par j) = par j := by omega
    have hb := h.1 (par j) p0 (by omega) (by omega)
    by_cases e : k = j
    · subst e; simp [e4, e5]; exact hb
    · have e6 : ¬ k = par j := by intro e; rw [← e] at kp; simp only [par] at kp; omega
      simp [e4, e5, e, e6]
      exact leI_trans hb (kp ▸ h.1 k k0 kn e)

theorem par_kids {k i : Nat} (h0 : 0 < k) : par k = i ↔ k = 2 * i + 1 ∨ k = 2 * i + 2 := by simp only [par]; omega
theorem down_end {q : List It} {n i : Nat} (h : DownI q n i) (he : n ≤ 2 * i + 1) : HeapN q n := fun k h0 hk => h.1 k h0 hk (by simp only [par]; omega)
theorem down_stop {q : List It} {n i j : Nat} (h : DownI q n i) (hm : ∀ k, 0 < k → k < n → par k = i → leI (el q j) (el q k)) (hl : lessI (el q j) (el q i) = false) : HeapN q n := fun k h0 hk => by
  by_cases e : par k = i
  · subst e; exact leI_trans hl (hm k h0 hk rfl)
  · exact h.1 k h0 hk e
theorem down_step {q : List It} {n i j : Nat} (h : DownI q n i) (hn : n ≤ q.length) (hj : j < n) (h0 : 0 < j) (hp : par j = i) (hm : ∀ k, 0 < k → k < n → par k = i → leI (el q j) (el q k)) (hl : lessI (el q j) (el q i) = true) : DownI (swp q i j) n j := by
  have hij : i < j := by simp only [par] at hp; omega
  have hle := leI_of_less hl
  constructor
  · intro k k0 kn kp
    rw [el_swp (by omega) (by omega), el_swp (by omega) (by omega)]
    by_cases e : par k = i
    · have e1 : ¬ i = j := by omega
      have e2 : ¬ k = i := by intro e2; rw [e2] at e; simp only [par] at e; omega
      by_cases e3 : k = j
      · subst e3; simp [e, e1]; exact hle
      · simp [e, e1, e2, e3]; exact hm k k0 kn e
    · by_cases e2 : k = i
      · subst e2
        have e3 : ¬ k = j := by omega
        simp [e, kp, e3]
        exact h.2 j h0 hj hp k0
      · have e3 : ¬ k = j := by intro e3; rw [e3] at e; exact e hp
        simp [e, kp, e2, e3]
        exact h.1 k k0 kn e
  · intro k k0 kn kp _
    rw [hp, el_swp (by omega) (by omega), el_swp (by omega) (by omega)]
    have e1 : ¬ i = j := by omega
    have hk : j < k := by simp only [par] at kp; omega
    have e2 : ¬ k = i := by omega
    have e3 : ¬ k = j := by omega
    simp [e1, e2, e3]
    have := h.1 k k0 kn (by omega)
    rwa [kp] at this

/-- The root of a heap comes first. -/
theorem heap_root {q : List It} {n : Nat} (h : HeapN q n) : ∀ k, k < n → leI (el q 0) (el q k) := by
  intro k
  induction k using Nat.strongRecOn with
  | _ k ih =>
    intro hk
    by_cases e : k = 0
    · subst e; exact leI_refl _
    · have hp : par k < k := by simp only [par]; omega
      exact leI_trans (ih (par k) hp (by omega)) (h k (by omega) hk)

theorem el_take {q : List It} {m k : Nat} (h : k < m) : el (q.take m) k = el q k := by
  simp [el, List.getD_eq_getElem?_getD, h]
theorem el_snoc {q : List It} {x : It} {k : Nat} (h : k < q.length) : el (q ++ [x]) k = el q k := by
  simp [el, List.getD_eq_getElem?_getD, List.getElem?_append_left h]
theorem push_up {q : List It} (x : It) (h : HeapN q q.length) : UpI (q ++ [x]) (q.length + 1) q.length := by
  constructor
  · intro k k0 kn kne
    have : par k < k := by simp only [par]; omega
    rw [el_snoc (by omega), el_snoc (by omega)]
    exact h k k0 (by omega)
  · intro k k0 kn kp _
    exfalso
    simp only [par] at kp; omega
theorem pop_down {q : List It} {n : Nat} (hl : q.length = n + 1) (h : HeapN q q.length) : DownI (swp q 0 n) n 0 := by
  constructor
  · intro k k0 kn kp
    have : par k < k := by simp only [par]; omega
    rw [el_swp (by omega) (by omega), el_swp (by omega) (by omega)]
    simp [show ¬ par k = n by omega, kp, show ¬ k = n by omega, show ¬ k = 0 by omega]
    exact h k k0 (by omega)
  · intro k _ _ _ h0; omega
section
variable {α : Type} [DecidableEq α]
def addK (out : List α) (k : α) : List α := if k ∈ out then out else out ++ [k]
def dedL (l : List α) : List α := l.foldl addK []
theorem mem_fold (l : List α) : ∀ (o : List α) (x : α), x ∈ l.foldl addK o ↔ x ∈ o ∨ x ∈ l := by
  induction l with
  | nil => simp
  | cons a l ih =>
    intro o x
    rw [List.foldl_cons, ih]
    simp only [addK]
    by_cases h : a ∈ o
    · simp only [h, if_true, List.mem_cons]
      constructor
      · rintro (h1 | h1) <;> simp [h1]
      · rintro (h1 | rfl | h1)
        · exact .inl h1
        · exact .inl h
        · exact .inr h1
    · simp only [h, if_false, List.mem_cons, List.mem_append, List.not_mem_nil, or_false, or_assoc]
theorem mem_ded {l : List α} {x : α} : x ∈ dedL l ↔ x ∈ l := by simp [dedL, mem_fold]
theorem fold_nodup (l : List α) : ∀ (o : List α), o.Nodup → (l.foldl addK o).Nodup := by
  induction l with
  | nil => simp
  | cons a l ih =>
    intro o ho
    rw [List.foldl_cons]
    apply ih
    simp only [addK]
    split
    · exact ho
    · rename_i h
      rw [List.nodup_append]
      refine ⟨ho, by simp, fun x hx y hy => ?_⟩
      simp at hy; subst hy
      exact fun e => h (e ▸ hx)
theorem ded_nodup (l : List α) : (dedL l).Nodup := fold_nodup l [] .nil
theorem ded_snoc (l : List α) (x : α) : dedL (l ++ [x]) = if x ∈ l then dedL l else dedL l ++ [x] := by
  simp only [dedL, List.foldl_append, List.foldl_cons, List.foldl_nil, addK]
  simp [mem_fold]
theorem ded_old {l : List α} {x : α} (h : x ∈ l) : dedL (l ++ [x]) = dedL l := by rw [ded_snoc, if_pos h]
theorem ded_new {l : List α} {x : α} (h : x ∉ l) : dedL (l ++ [x]) = dedL l ++ [x] := by rw [ded_snoc, if_neg h]
theorem ded_len (l : List α) : (dedL l).length ≤ l.length := by
  have : ∀ (l o : List α), (l.foldl addK o).length ≤ o.length + l.length := by
    intro l
    induction l with
    | nil => simp
    | cons a l ih =>
      intro o
      rw [List.foldl_cons]
      refine Nat.le_trans (ih _) ?_
      simp only [addK]; split <;> simp <;> omega
  simpa [dedL] using this l []
end

def wins (b : List Int) : List (List Int) := (List.range (b.length + 1 - 6)).map fun i => (b.drop i).take 6
def keysL (b : List Int) : List (List Int) := dedL (wins b)
theorem wins_len (b : List Int) : (wins b).length = b.length + 1 - 6 := by simp [wins]
theorem keys_len (b : List Int) : (keysL b).length ≤ b.length := Nat.le_trans (ded_len _) (by rw [wins_len]; omega)
theorem mem_keys {b : List Int} {k : List Int} : k ∈ keysL b ↔ k ∈ wins b := mem_ded
theorem win_at {b : List Int} {i : Nat} (h : i + 6 ≤ b.length) : (wins b)[i]? = some ((b.drop i).take 6) := by
  simp only [wins, List.getElem?_map]
  rw [List.getElem?_range (by omega)]; rfl
theorem mem_wins {b k : List Int} : k ∈ wins b ↔ ∃ i, i + 6 ≤ b.length ∧ (b.drop i).take 6 = k := by
  simp only [wins, List.mem_map, List.mem_range]
  constructor
  · rintro ⟨i, h, e⟩; exact ⟨i, by omega, e⟩
  · rintro ⟨i, h, e⟩; exact ⟨i, by omega, e⟩
theorem wins_take {b : List Int} {i : Nat} (h : i + 6 ≤ b.length) : (wins b).take (i + 1) = (wins b).take i ++ [(b.drop i).take 6] := by
  rw [List.take_add_one, win_at h]; rfl
theorem win_byte {b k : List Int} (hb : ∀ x ∈ b, 0 ≤ x ∧ x ≤ 255) (h : k ∈ wins b) : ∀ x ∈ k, 0 ≤ x ∧ x ≤ 255 := by
  obtain ⟨i, _, rfl⟩ := mem_wins.1 h
  exact fun x hx => hb x (List.mem_of_mem_drop (List.mem_of_mem_take hx))

/-- In how many samples a key lies. -/
def cntL (l : List (List Int)) (k : List Int) : Nat := (l.filter fun b => decide (k ∈ wins b)).length
theorem cnt_le (l : List (List Int)) (k : List Int) : cntL l k ≤ l.length := List.length_filter_le _ _
theorem cnt_snoc (l : List (List Int)) (b k : List Int) : cntL (l ++ [b]) k = cntL l k + if k ∈ wins b then 1 else 0 := by
  simp only [cntL, List.filter_append, List.length_append, List.filter_cons, List.filter_nil]
  by_cases h : k ∈ wins b <;> simp [h]

/-- What one key is worth. -/
def oneW (c : List Int → Nat) (but : List (List Int)) (k : List Int) : Nat := if k ∈ but then 0 else c k - 1
def sumK (c : List Int → Nat) (but : List (List Int)) (ks : List (List Int)) : Nat := (ks.map (oneW c but)).sum
def wkL (c : List Int → Nat) (but : List (List Int)) (b : List Int) : Nat := sumK c but (keysL b)
theorem sumK_snoc (c : List Int → Nat) (but : List (List Int)) (ks : List (List Int)) (k : List Int) : sumK c but (ks ++ [k]) = sumK c but ks + oneW c but k := by simp [sumK]
theorem sumK_le {c : List Int → Nat} {but : List (List Int)} {n : Nat} (hc : ∀ k, c k ≤ n) (ks : List (List Int)) : sumK c but ks ≤ ks.length * n := by
  induction ks with
  | nil => simp [sumK]
  | cons k ks ih =>
    have h1 : oneW c but k ≤ n := by simp only [oneW]; have := hc k; split <;> omega
    simp only [sumK, List.map_cons, List.sum_cons, List.length_cons, Nat.add_mul] at *
    omega
theorem oneW_more {c : List Int → Nat} {but : List (List Int)} (ks : List (List Int)) (k : List Int) : oneW c (but ++ ks) k ≤ oneW c but k := by
  simp only [oneW, List.mem_append]
  by_cases h : k ∈ but
  · simp [h]
  · by_cases h2 : k ∈ ks <;> simp [h, h2]
theorem sumK_more {c : List Int → Nat} {but : List (List Int)} (ks l : List (List Int)) : sumK c (but ++ ks) l ≤ sumK c but l := by
  induction l with
  | nil => simp [sumK]
  | cons k l ih =>
    have := oneW_more (c := c) (but := but) ks k
    simp only [sumK, List.map_cons, List.sum_cons] at *
    omega
theorem sumK_none {c : List Int → Nat} {but l : List (List Int)} (h : ∀ k ∈ l, k ∈ but) : sumK c but l = 0 := by
  induction l with
  | nil => simp [sumK]
  | cons k l ih =>
    have h1 : oneW c but k = 0 := by simp [oneW, h k (by simp)]
    have := ih (fun x hx => h x (by simp [hx]))
    simp only [sumK, List.map_cons, List.sum_cons] at *
    omega
theorem wk_more {c : List Int → Nat} {but : List (List Int)} (ks : List (List Int)) (b : List Int) : wkL c (but ++ ks) b ≤ wkL c but b := sumK_more ks _
theorem wk_own {c : List Int → Nat} {but : List (List Int)} (b : List Int) : wkL c (but ++ keysL b) b = 0 := sumK_none (fun k hk => by simp [hk])

/-- The best piece first, again and again. -/
inductive Greedy (c : List Int → Nat) (P : List (List Int)) (size : Nat) : List Int → List (List Int) → List Int → Prop
  | stop {out : List Int} {kn : List (List Int)} : (∀ (i : Nat) (p : List Int), P[i]? = some p → p.length + out.length ≤ size → wkL c kn p = 0) → Greedy c P size out kn out
  | pick {out : List Int} {kn : List (List Int)} {res : List Int} (i : Nat) (p : List Int) : P[i]? = some p → p.length + out.length ≤ size → 0 < wkL c kn p →
      (∀ (j : Nat) (r : List Int), P[j]? = some r → r.length + out.length ≤ size → wkL c kn r < wkL c kn p ∨ wkL c kn r = wkL c kn p ∧ i ≤ j) → Greedy c P size (p ++ out) (kn ++ keysL p) res → Greedy c P size out kn res
theorem greedy_one {c : List Int → Nat} {P : List (List Int)} {size : Nat} {out : List Int} {kn : List (List Int)} {a : List Int} (h : Greedy c P size out kn a) : ∀ {b : List Int}, Greedy c P size out kn b → a = b := by
  induction h with
  | stop hs =>
    intro b hb
    cases hb with
    | stop _ => rfl
    | pick i p h1 h2 h3 _ _ => exact absurd (hs i p h1 h2) (by omega)
  | pick i p h1 h2 h3 h4 _ ih =>
    intro b hb
    cases hb with
    | stop hs => exact absurd (hs i p h1 h2) (by omega)
    | pick j r k1 k2 k3 k4 hb =>
      have e : i = j := by
        have a1 := h4 j r k1 k2
        have a2 := k4 i p h1 h2
        omega
      subst e
      rw [h1] at k1
      cases k1
      exact ih hb

/-- What the queue holds. -/
structure QOk (c : List Int → Nat) (P : List (List Int)) (size : Nat) (out : List Int) (kn : List (List Int)) (q : List It) : Prop where
  item : ∀ x ∈ q, ∃ i : Nat, x.at' = i ∧ P[i]? = some x.l ∧ (wkL c kn x.l : Int) ≤ x.worth
  nodup : (q.map (·.at')).Nodup
  all : ∀ (i : Nat) (p : List Int), P[i]? = some p → p.length + out.length ≤ size → 0 < wkL c kn p → ∃ x ∈ q, x.at' = (i : Int)

theorem QOk.perm {c P size out kn q q'} (h : QOk c P size out kn q) (k : q'.Perm q) : QOk c P size out kn q' :=
  ⟨fun x hx => h.item x (k.mem_iff.1 hx), (k.map (·.at')).nodup_iff.2 h.nodup, fun i p h1 h2 h3 => by
    obtain ⟨x, hx, e⟩ := h.all i p h1 h2 h3; exact ⟨x, k.mem_iff.2 hx, e⟩⟩
theorem QOk.stop {c P size out kn} (h : QOk c P size out kn []) : Greedy c P size out kn out :=
  .stop fun i p h1 h2 => by
    by_cases h3 : 0 < wkL c kn p
    · obtain ⟨x, hx, _⟩ := h.all i p h1 h2 h3; cases hx
    · omega
theorem QOk.drop {c P size out kn x q} (h : QOk c P size out kn (x :: q)) (hx : wkL c kn x.l = 0 ∨ size < x.l.length + out.length) : QOk c P size out kn q :=
  ⟨fun y hy => h.item y (by simp [hy]), (List.nodup_cons.1 h.nodup).2, fun i p h1 h2 h3 => by
    obtain ⟨y, hy, e⟩ := h.all i p h1 h2 h3
    rcases List.mem_cons.1 hy with rfl | hy
    · obtain ⟨j, e1, e2, _⟩ := h.item y (by simp)
      have : j = i := by omega
      subst this
      rw [h1] at e2
      cases e2
      omega
    · exact ⟨y, hy, e⟩⟩
theorem QOk.again {c P size out kn x q} (h : QOk c P size out kn (x :: q)) : QOk c P size out kn (q ++ [⟨x.at', wkL c kn x.l, x.l⟩]) := by
  have hp : (q ++ [(⟨x.at', wkL c kn x.l, x.l⟩ : It)]).Perm (⟨x.at', wkL c kn x.l, x.l⟩ :: q) := List.perm_append_comm
  refine QOk.perm ⟨fun y hy => ?_, by simpa using h.nodup, fun i p h1 h2 h3 => ?_⟩ hp
  · rcases List.mem_cons.1 hy with rfl | hy
    · obtain ⟨i, e1, e2, _⟩ := h.item x (by simp); exact ⟨i, e1, e2, Int.le_refl _⟩
    · exact h.item y (by simp [hy])
  · obtain ⟨y, hy, e⟩ := h.all i p h1 h2 h3
    rcases List.mem_cons.1 hy with rfl | hy
    · exact ⟨_, List.mem_cons_self, e⟩
    · exact ⟨y, by simp [hy], e⟩
theorem QOk.pick {c P size out kn x q} {res : List Int} (h : QOk c P size out kn (x :: q)) (hr : ∀ y ∈ q, leI x y) (hw : (wkL c kn x.l : Int) = x.worth) (h0 : 0 < wkL c kn x.l) (hf : x.l.length + out.length ≤ size) :
    QOk c P size (x.l ++ out) (kn ++ keysL x.l) q ∧ (Greedy c P size (x.l ++ out) (kn ++ keysL x.l) res → Greedy c P size out kn res) := by
  obtain ⟨i, e1, e2, _⟩ := h.item x (by simp)
  constructor
  · refine ⟨fun y hy => ?_, (List.nodup_cons.1 h.nodup).2, fun j p h1 h2 h3 => ?_⟩
    · obtain ⟨j, f1, f2, f3⟩ := h.item y (by simp [hy])
      have := wk_more (c := c) (but := kn) (keysL x.l) y.l
      exact ⟨j, f1, f2, by omega⟩
    · have hm := wk_more (c := c) (but := kn) (keysL x.l) p
      obtain ⟨y, hy, e⟩ := h.all j p h1 (by simp at h2; omega) (by omega)
      rcases List.mem_cons.1 hy with rfl | hy
      · have : i = j := by omega
        subst this
        rw [h1] at e2
        cases e2
        rw [wk_own] at h3; omega
      · exact ⟨y, hy, e⟩
  · refine fun hg => .pick i x.l e2 hf h0 (fun j r k1 k2 => ?_) hg
    by_cases k3 : 0 < wkL c kn r
    · obtain ⟨y, hy, e⟩ := h.all j r k1 k2 k3
      obtain ⟨j', f1, f2, f3⟩ := h.item y hy
      have : j' = j := by omega
      subst this
      rw [k1] at f2
      cases f2
      have hle : leI x y := by
        rcases List.mem_cons.1 hy with rfl | hy
        · exact leI_refl _
        · exact hr y hy
      simp [leI, lessI] at hle
      omega
    · omega

end Go.Proofs.YtogengangfohfaaGreat
