/-
  Maps from numbers to numbers in memory: what a map block holds as a function of keys; the runs of the operations on it.
  The places of a table's states in plain words: what is laid step by step. (No walk is done here.)
  Maps from numbers to numbers whose number of entries is known. (No walk is done here.)
  Walks over package spread: Step, turn and its iterator.
  Rows of numbers that are changed in place.
-/
import Derived.Test.YtophgpnnjphnmaaGreatQ1
import Derived.Maps.Own
import Derived.Maps.OwnOps
import Derived.Maps.OwnSet
import Derived.DeepKeys4
import Derived.WideKeyEntry
import Derived.Test.YtophgpnnjphnmaaGreatQ11
import Derived.Test.YtophgpnnjphnmaaGreatQ2
import Derived.Test.YtophgpnnjphnmaaGreatRows
import Derived.IntWalk
import Derived.BigFrameIn
import Derived.Stop.RegionWithIn
import Derived.Laws.OwnMore
namespace Go.Proofs.YtophgpnnjphnmaaGreat
section
set_option linter.unusedVariables false
set_option linter.unusedSimpArgs false
set_option linter.unusedSectionVars false
open Go.RowKit Go.ChangeMaps Go.MapKept Go.Maps
open Go.WideElems (Fit rd rg pl rd_key rd_val)

theorem Tryz.ikeyed : Keyed Tryz.prog 3 := int_keyed Tryz.underlying3

/-- A key as a value. -/
abbrev ikey (q : Int) : Value := .int .i64 q
def IkWf (q : Int) : Prop := (Lit.int .i64 q).wf = true
def updI (f : Int → Option Int) (q : Int) (v : Int) : Int → Option Int := fun r => if r = q then some v else f r
theorem ikey_lit {q : Int} (h : IkWf q) : ∃ kl, keyOf Tryz.prog 3 (ikey q) = some kl :=
  ⟨_, keyOf_int_mk Tryz.underlying3 h⟩
theorem ikey_inj {a b : Int} (h : ikey a = ikey b) : a = b := by
  simpa [ikey] using h

/-- Block b of w is a map of at most n entries that holds what f says. -/
def MapI (w : World) (b n : Nat) (f : Int → Option Int) : Prop :=
  ∃ D : DataW Unit, w.ownsMap Tryz.prog 3 (plainElem Tryz.prog 3) b n D ∧
    ∀ q kl, IkWf q → keyOf Tryz.prog 3 (ikey q) = some kl → Maps.has D kl = (f q).isSome ∧ D.atKey kl (.lit (.int .i64 0)) = .lit (.int .i64 ((f q).getD 0))

theorem zeroInt (w : World) : (zeroValue 3).run Tryz.prog w = .ok (.int .i64 0) w := by kernel_rfl

section
variable {w w' : World} {b n : Nat} {f : Int → Option Int} {q : Int}

theorem MapI.lt (h : MapI w b n f) : b < w.heap.size := by obtain ⟨D, h, -⟩ := h; exact h.lt
theorem MapI.mono (h : MapI w b n f) {m : Nat} (hm : n ≤ m) : MapI w b m f := by obtain ⟨D, h, h2⟩ := h; exact ⟨D, h.mono hm, h2⟩
theorem MapI.keeps {S : List Nat} (h : MapI w b n f) (k : Keeps w w' S) (hn : b ∉ S) : MapI w' b n f := by
  obtain ⟨D, ⟨es, clock, hb, r⟩, h2⟩ := h
  exact ⟨D, ⟨es, clock, (k.block b (Array.getElem?_eq_some_iff.1 hb).1 hn).trans hb, r⟩, h2⟩
theorem MapI.made (w : World) : MapI (w.alloc (.map #[] 0)) w.heap.size 0 (fun _ => none) :=
  ⟨_, World.ownsMap_made w _ _ _, fun q kl _ _ => ⟨rfl, rfl⟩⟩

theorem MapI.look (h : MapI w b n f) (hq : IkWf q) : (Instr.lookup 171 (.map (some b)) (ikey q) false).run Tryz.prog w = .ok (.int .i64 ((f q).getD 0)) w := by
  obtain ⟨D, h, h2⟩ := h
  obtain ⟨kl, hk⟩ := ikey_lit hq
  obtain ⟨c, hr, ha, -⟩ := h.lookup_int (t := 171) (q := .i64) Tryz.ikeyed Tryz.underlying171 Tryz.underlying3 (zeroInt w) hk
  rw [(h2 q kl hq hk).2] at ha
  have e : (f q).getD 0 = c := by simpa using ha
  rw [hr, e]
theorem MapI.look_ok (h : MapI w b n f) (hq : IkWf q) : (Instr.lookup 171 (.map (some b)) (ikey q) true).run Tryz.prog w = .ok (.tuple #[.int .i64 ((f q).getD 0), .bool (f q).isSome]) w := by
  obtain ⟨D, h, h2⟩ := h
  obtain ⟨kl, hk⟩ := ikey_lit hq
  obtain ⟨v, ps, hr, hv⟩ := h.look_ok (t := 171) Tryz.ikeyed Tryz.underlying171 (zeroInt w) (plainElem_int Tryz.underlying3 (by decide)) hk
  obtain ⟨c, rfl, e, -⟩ := plainElem_int_inv Tryz.underlying3 hv
  rw [(h2 q kl hq hk).2] at e
  have e' : (f q).getD 0 = c := by simpa using congrArg Prod.fst e
  rw [hr, (h2 q kl hq hk).1, e']

theorem MapI.of_put {D : DataW Unit} {kl : Lit} {v : Int} {m : Nat} (K : w'.ownsMap Tryz.prog 3 (plainElem Tryz.prog 3) b m (D.put kl (.lit (.int .i64 v)))) (hq : IkWf q) (hk : keyOf Tryz.prog 3 (ikey q) = some kl)
    (hD : Maps.IsMap D)
    (h2 : ∀ q kl, IkWf q → keyOf Tryz.prog 3 (ikey q) = some kl → Maps.has D kl = (f q).isSome ∧ D.atKey kl (.lit (.int .i64 0)) = .lit (.int .i64 ((f q).getD 0))) : MapI w' b m (updI f q v) := by
  refine ⟨_, K, fun r rl hr hrl => ?_⟩
  by_cases e : r = q
  · subst e
    rw [hk] at hrl
    cases hrl
    have hkl := Tryz.ikeyed.key hk
    rw [Maps.has_put_same hD hkl, Maps.atKey_put_same hD hkl]
    simp [updI]
  · have hne : rl ≠ kl := fun e2 => by
      subst e2
      exact e (ikey_inj (Tryz.ikeyed.inj hrl hk))
    rw [Maps.has_put_other hne, Maps.atKey_put_other hne]
    simp only [updI, if_neg e]
    exact h2 r rl hr hrl

theorem MapI.update (h : MapI w b n f) (hq : IkWf q) (v : Int) (hv : (Lit.int .i64 v).wf = true) (hn : n < maxLen) :
    ∃ w', (Instr.mapUpdate 171 (.map (some b)) (ikey q) (.int .i64 v)).run Tryz.prog w = .ok () w' ∧ MapI w' b (n + 1) (updI f q v) ∧ w.grownBy w' (some b) := by
  obtain ⟨D, h, h2⟩ := h
  obtain ⟨kl, hk⟩ := ikey_lit hq
  obtain ⟨w', hr, ho, hg⟩ := h.update (t := 171) Tryz.ikeyed Tryz.underlying171 hn hk (plainElem_int Tryz.underlying3 hv)
  exact ⟨w', hr, MapI.of_put ho hq hk h.isMap h2, hg⟩

theorem MapI.alloc (h : MapI w b n f) (o : Obj) : MapI (w.alloc o) b n f := h.keeps ((Keeps.refl w []).alloc o) (by simp)
end
end

section
set_option linter.unusedVariables false
set_option linter.unusedSimpArgs false
set_option linter.unusedSectionVars false

/-- The symbols of norm -1 among the first k, in order; those of greater norms, each as often as it has states. -/
def lowsK (norm : List Int) (k : Nat) : List Nat := (List.range k).filter (fun s => norm.getD s 0 == -1)
def othersK (norm : List Int) (k : Nat) : List Nat := (List.range k).flatMap fun s => List.replicate (norm.getD s 0).toNat s
theorem lowsK_all (norm : List Int) : lowsK norm norm.length = lowsL norm := rfl
theorem othersK_all (norm : List Int) : othersK norm norm.length = othersL norm := rfl
theorem getD_some {norm : List Int} {k : Nat} {x : Int} (h : norm[k]? = some x) : norm.getD k 0 = x := by
  rw [List.getD_eq_getElem?_getD, h]; rfl
theorem lowsK_yes {norm : List Int} {k : Nat} (h : norm[k]? = some (-1)) : lowsK norm (k + 1) = lowsK norm k ++ [k] := by
  have e := getD_some h
  simp only [lowsK, List.range_succ, List.filter_append, List.filter_cons, List.filter_nil, e]
  rfl
theorem lowsK_no {norm : List Int} {k : Nat} {x : Int} (h : norm[k]? = some x) (hx : x ≠ -1) : lowsK norm (k + 1) = lowsK norm k := by
  have e := getD_some h
  have e2 : (x == -1) = false := by simpa using hx
  simp only [lowsK, List.range_succ, List.filter_append, List.filter_cons, List.filter_nil, e, e2]
  simp
theorem othersK_next {norm : List Int} {k : Nat} {x : Int} (h : norm[k]? = some x) : othersK norm (k + 1) = othersK norm k ++ List.replicate x.toNat k := by
  have e := getD_some h
  simp only [othersK, List.range_succ, List.flatMap_append, List.flatMap_cons, List.flatMap_nil, List.append_nil, e]
theorem places_len {norm : List Int} (h : ∀ n ∈ norm, -1 ≤ n) : ∀ {k : Nat}, k ≤ norm.length → ((lowsK norm k).length : Int) + ((othersK norm k).length : Int) = sumN (norm.take k)
  | 0, _ => by simp [lowsK, othersK, sumN]
  | k + 1, hk => by
    obtain ⟨x, hx⟩ : ∃ x, norm[k]? = some x := ⟨_, List.getElem?_eq_getElem (by omega)⟩
    have ih := places_len h (k := k) (by omega)
    have h1 := h x (List.mem_of_getElem? hx)
    rw [sumN_take hx, othersK_next hx, List.length_append, List.length_replicate]
    by_cases hq : x = -1
    · subst hq
      rw [lowsK_yes hx, List.length_append, List.length_singleton, show stN (-1) = 1 from rfl]
      have : ((-1 : Int)).toNat = 0 := rfl
      omega
    · rw [lowsK_no hx hq, show stN x = x from if_neg hq]
      omega
theorem lowsK_lt {norm : List Int} {k s : Nat} (h : s ∈ lowsK norm k) : s < k := List.mem_range.1 (List.mem_filter.1 h).1
theorem othersK_lt {norm : List Int} {k s : Nat} (h : s ∈ othersK norm k) : s < k := by
  obtain ⟨i, hi, hs⟩ := List.mem_flatMap.1 h
  rw [(List.mem_replicate.1 hs).2]
  exact List.mem_range.1 hi
/-- What stands at the places once the symbols of norm -1 are laid. -/
def hasA (S : Nat) (lows : List Nat) : Int → Option Int := fun p => if (S : Int) - (lows.length : Int) ≤ p ∧ p < (S : Int) then some ((lows.getD (S - 1 - p.toNat) 0 : Nat) : Int) else none
theorem hasA_nil (S : Nat) : hasA S [] = fun _ => none := by
  funext p
  unfold hasA
  rw [if_neg]
  simp
theorem hasA_snoc {S s : Nat} {lows : List Nat} (h : lows.length < S) : hasA S (lows ++ [s]) = updI (hasA S lows) ((S : Int) - 1 - (lows.length : Int)) (s : Int) := by
  funext p
  unfold updI hasA
  rw [List.length_append, List.length_singleton]
  by_cases h1 : p = (S : Int) - 1 - (lows.length : Int)
  · rw [if_pos h1, if_pos (by omega)]
    have e : S - 1 - p.toNat = lows.length := by omega
    rw [e, List.getD_eq_getElem?_getD, List.getElem?_append_right (Nat.le_refl _), Nat.sub_self]
    rfl
  · rw [if_neg h1]
    by_cases h2 : (S : Int) - (lows.length : Int) ≤ p ∧ p < (S : Int)
    · rw [if_pos h2, if_pos (by omega), List.getD_eq_getElem?_getD, List.getD_eq_getElem?_getD, List.getElem?_append_left (by omega)]
    · rw [if_neg h2, if_neg (by omega)]

/-- What stands there once the places fr hold the first of the others. -/
def hasB (S : Nat) (lows others fr : List Nat) : Int → Option Int := fun p => if 0 ≤ p ∧ p.toNat ∈ fr then some ((others.getD (fr.idxOf p.toNat) 0 : Nat) : Int) else hasA S lows p
theorem hasB_nil (S : Nat) (lows others : List Nat) : hasB S lows others [] = hasA S lows := by
  funext p
  unfold hasB
  rw [if_neg (by simp)]
theorem hasB_snoc {S p : Nat} {lows others fr : List Nat} (h : p ∉ fr) : hasB S lows others (fr ++ [p]) = updI (hasB S lows others fr) (p : Int) ((others.getD fr.length 0 : Nat) : Int) := by
  funext q
  unfold updI hasB
  by_cases h1 : q = (p : Int)
  · subst h1
    rw [if_pos rfl, if_pos (by simp), Int.toNat_natCast, show (fr ++ [p]).idxOf p = fr.length from by
      rw [List.idxOf_append, if_neg h]
      simp]
  · rw [if_neg h1]
    by_cases h2 : 0 ≤ q ∧ q.toNat ∈ fr
    · rw [if_pos h2, if_pos ⟨h2.1, List.mem_append.2 (.inl h2.2)⟩, show (fr ++ [p]).idxOf q.toNat = fr.idxOf q.toNat from by rw [List.idxOf_append, if_pos h2.2]]
    · rw [if_neg h2, if_neg]
      intro h3
      rcases List.mem_append.1 h3.2 with h4 | h4
      · exact h2 ⟨h3.1, h4⟩
      · have := List.mem_singleton.1 h4
        omega
theorem hasB_some_low {S p : Nat} {lows others fr : List Nat} (h1 : S - lows.length ≤ p) (h2 : p < S) (h3 : lows.length ≤ S) : (hasB S lows others fr (p : Int)).isSome = true := by
  unfold hasB
  split
  · rfl
  · unfold hasA
    rw [if_pos (by omega)]
    rfl
theorem hasB_none {S p : Nat} {lows others fr : List Nat} (h1 : p < S - lows.length) (h2 : p ∉ fr) : hasB S lows others fr (p : Int) = none := by
  unfold hasB
  rw [if_neg (by rintro ⟨-, h⟩; exact h2 (by simpa using h))]
  unfold hasA
  rw [if_neg (by omega)]

theorem mem_free {s top k p : Nat} : p ∈ freeN s top k ↔ (∃ j, j < k ∧ visitN s j = p) ∧ p < top := by
  unfold freeN
  rw [List.mem_filter, List.mem_map]
  simp only [List.mem_range, decide_eq_true_eq]
/-- The place of visit k is not among the free ones ahead of it. -/
theorem visit_fresh {g top k : Nat} (h : g ≤ 9) (hk : k < 2 ^ g) : visitN (2 ^ g) k ∉ freeN (2 ^ g) top k := fun hm => by
  obtain ⟨⟨j, hj, e⟩, -⟩ := mem_free.1 hm
  have := visit_inj h (by omega) hk e
  omega
theorem free_prefix {s top k m : Nat} (h : k ≤ m) : freeN s top k <+: freeN s top m := by
  obtain ⟨d, rfl⟩ := Nat.exists_eq_add_of_le h
  induction d with
  | zero => exact List.prefix_refl _
  | succ d ih =>
    refine (ih (by omega)).trans ?_
    by_cases hv : visitN s (k + d) < top
    · rw [← Nat.add_assoc, free_succ_yes hv]
      exact List.prefix_append _ _
    · rw [← Nat.add_assoc, free_succ_no hv]
      exact List.prefix_refl _
/-- As long as a free place comes up, not all are filled. -/
theorem free_room {g top k : Nat} (h : g ≤ 9) (ht : top ≤ 2 ^ g) (hk : k < 2 ^ g) (hv : visitN (2 ^ g) k < top) : (freeN (2 ^ g) top k).length < top := by
  have h1 := (free_prefix (s := 2 ^ g) (top := top) (k := k + 1) (m := 2 ^ g) hk).length_le
  rw [free_succ_yes hv, List.length_append, List.length_singleton, free_len h ht] at h1
  omega
theorem free_all {g top p : Nat} (h : g ≤ 9) (hp : p < top) (ht : top ≤ 2 ^ g) : p ∈ freeN (2 ^ g) top (2 ^ g) := by
  obtain ⟨j, h1, h2⟩ := visit_all h (show p < 2 ^ g by omega)
  exact mem_free.2 ⟨⟨j, h1, h2⟩, hp⟩
/-- In the end the places hold what placeN says. -/
theorem hasB_end {g p : Nat} {norm : List Int} (h : g ≤ 9) (hp : p < 2 ^ g) (hl : (lowsL norm).length ≤ 2 ^ g) :
    hasB (2 ^ g) (lowsL norm) (othersL norm) (freeN (2 ^ g) (2 ^ g - (lowsL norm).length) (2 ^ g)) (p : Int) = some ((placeN g norm p : Nat) : Int) := by
  unfold hasB placeN
  by_cases h1 : 2 ^ g - (lowsL norm).length ≤ p
  · rw [if_pos h1, if_neg]
    · unfold hasA
      rw [if_pos (by have : ((2 ^ g : Nat) : Int) = (2 ^ g : Nat) := rfl; omega)]
      simp
    · rintro ⟨-, hm⟩
      have := (mem_free.1 hm).2
      simp at this
      omega
  · rw [if_neg h1, if_pos]
    · simp
    · exact ⟨by omega, by simpa using free_all h (by omega) (by omega)⟩
theorem placesL_get {g p : Nat} {norm : List Int} (hp : p < 2 ^ g) : (placesL g norm)[p]? = some (placeN g norm p) := by
  simp [placesL, hp]
theorem placesL_len (g : Nat) (norm : List Int) : (placesL g norm).length = 2 ^ g := by simp [placesL]
/-- A place's symbol has a norm. -/
theorem placeN_lt {g p : Nat} {norm : List Int} (h : g ≤ 9) (hn : 0 < norm.length) : placeN g norm p < norm.length := by
  unfold placeN
  have hget : ∀ (L : List Nat) (j : Nat), (∀ s ∈ L, s < norm.length) → L.getD j 0 < norm.length := fun L j hL => by
    rw [List.getD_eq_getElem?_getD]
    cases hj : L[j]? with
    | none => exact hn
    | some s => exact hL s (List.mem_of_getElem? hj)
  split
  · exact hget _ _ (fun s hs => lowsK_lt (norm := norm) hs)
  · exact hget _ _ (fun s hs => othersK_lt (norm := norm) hs)
end

section
set_option linter.unusedVariables false
set_option linter.unusedSimpArgs false
set_option linter.unusedSectionVars false
open Go.RowKit Go.ChangeMaps Go.MapKept Go.Maps

/-- As MapI, and n entries are there. -/
def MapZ (w : World) (b n : Nat) (f : Int → Option Int) : Prop :=
  ∃ D : DataW Unit, w.ownsMap Tryz.prog 3 (plainElem Tryz.prog 3) b n D ∧
    (∀ q kl, IkWf q → keyOf Tryz.prog 3 (ikey q) = some kl → Maps.has D kl = (f q).isSome ∧ D.atKey kl (.lit (.int .i64 0)) = .lit (.int .i64 ((f q).getD 0))) ∧ Maps.size D = n
section
variable {w w' : World} {b n : Nat} {f : Int → Option Int} {q : Int}
theorem MapZ.toI (h : MapZ w b n f) : MapI w b n f := by obtain ⟨D, h1, h2, -⟩ := h; exact ⟨D, h1, h2⟩
theorem MapZ.made (w : World) : MapZ (w.alloc (.map #[] 0)) w.heap.size 0 (fun _ => none) :=
  ⟨_, World.ownsMap_made w _ _ _, (fun q kl _ _ => ⟨rfl, rfl⟩), rfl⟩
theorem MapZ.keeps {S : List Nat} (h : MapZ w b n f) (k : Keeps w w' S) (hn : b ∉ S) : MapZ w' b n f := by
  obtain ⟨D, ⟨es, clock, hb, r⟩, h2⟩ := h
  exact ⟨D, ⟨es, clock, (k.block b (Array.getElem?_eq_some_iff.1 hb).1 hn).trans hb, r⟩, h2⟩
theorem MapZ.len (h : MapZ w b n f) (ty : TypeId) : (Builtin.len_ #[171] ty #[.map (some b)]).run Tryz.prog w = .ok (.int .i64 (n : Int)) w := by
  obtain ⟨D, h1, -, h3⟩ := h
  rw [h1.len Tryz.underlying171 ty, h3]
theorem MapZ.update (h : MapZ w b n f) (hq : IkWf q) (v : Int) (hv : (Lit.int .i64 v).wf = true) (hn : n < maxLen) (hf : f q = none) :
    ∃ w', (Instr.mapUpdate 171 (.map (some b)) (ikey q) (.int .i64 v)).run Tryz.prog w = .ok () w' ∧ MapZ w' b (n + 1) (updI f q v) ∧ w.grownBy w' (some b) := by
  obtain ⟨D, h, h2, h3⟩ := h
  obtain ⟨kl, hk⟩ := ikey_lit hq
  obtain ⟨w', hr, ho, hg⟩ := h.update (t := 171) Tryz.ikeyed Tryz.underlying171 hn hk (plainElem_int Tryz.underlying3 hv)
  have hI := MapI.of_put ho hq hk h.isMap h2
  refine ⟨w', hr, ⟨_, ho, ?_, ?_⟩, hg⟩
  · obtain ⟨D', ho', h2'⟩ := hI
    intro r rl hr hrl
    by_cases e : r = q
    · subst e
      rw [hk] at hrl
      cases hrl
      have hkl := Tryz.ikeyed.key hk
      rw [Maps.has_put_same h.isMap hkl, Maps.atKey_put_same h.isMap hkl]
      simp [updI]
    · have hne : rl ≠ kl := fun e2 => by
        subst e2
        exact e (ikey_inj (Tryz.ikeyed.inj hrl hk))
      rw [Maps.has_put_other hne, Maps.atKey_put_other hne]
      simp only [updI, if_neg e]
      exact h2 r rl hr hrl
  · rw [size_put (h.tidy Tryz.ikeyed), (h2 q kl hq hk).1, hf, h3]
    rfl
end
/-- Small numbers are keys. -/
theorem ik_small {q : Int} (h0 : -1000000 ≤ q) (h1 : q ≤ 1000000) : IkWf q := by
  show (Lit.int .i64 q).wf = true
  simp [Lit.wf, IntKind.min, IntKind.max, IntKind.signed, IntKind.bits]
  omega
end

section
set_option linter.unusedVariables false
set_option linter.unusedSimpArgs false
set_option linter.unusedSectionVars false
open Go.RowKit

attribute [local go_sem] Oper.semAt_some

theorem step_any (s : Nat) (w : World) (h1 : 1 ≤ s) (h2 : s ≤ 512) :
    Calls Tryz.prog 179 #[.int .i64 s] w fun e w' => e = .returned (.int .i64 (stepN s : Nat)) ∧ w = w' := by
  have hmx : min (max (s : Int) 1) 512 = (s : Int) := by omega
  by_cases h : s < 16
  · have hl : (s : Int) < 16 := by omega
    have e : stepN s = 1 := if_pos h
    rw [e]
    clear h e
    go_enter Tryz.func179, Tryz.ntmps179
    go_wp2_with fail
    go_ret
    exact ⟨rfl, rfl⟩
  · have hl : decide ((s : Int) < 16) = false := decide_eq_false (by omega)
    have e : stepN s = s / 2 + s / 8 + 3 := if_neg h
    rw [e]
    obtain ⟨a, ha⟩ : ∃ a : Nat, s / 2 = a := ⟨_, rfl⟩
    obtain ⟨b, hb⟩ : ∃ b : Nat, s / 8 = b := ⟨_, rfl⟩
    have ha' : (s : Int) / 2 = (a : Int) := by omega
    have hb' : (s : Int) / 8 = (b : Int) := by omega
    rw [ha, hb]
    have hab : a ≤ 256 ∧ b ≤ 64 := by omega
    obtain ⟨ha2, hb2⟩ := hab
    clear h e ha hb
    go_enter Tryz.func179, Tryz.ntmps179
    go_wp2_with fail
    go_ret
    exact ⟨ret_int (by simp), rfl⟩

theorem turn_any (s : Nat) (w : World) : Calls Tryz.prog 166 #[.int .i64 s] w fun e w' => e = .returned (.func (.func 178) #[] #[.pointer (some ⟨w.heap.size, 0, none⟩)]) ∧ w' = w.alloc (.cells #[.int .i64 s] 3) := by
  have hmf : ∀ (fn : Fn) (first cap : Array Value) (w : World), (Instr.makeFunc fn first cap).run Tryz.prog w = .ok (.func fn first cap) w := fun _ _ _ _ => rfl
  go_enter Tryz.func166, Tryz.ntmps166
  go_wp2_with fail
  go_ret
  exact ⟨rfl, rfl⟩

abbrev encI (x : Int) : Array Value := #[.int .i64 x]
/-- The visited places, in order. -/
def visitL (s k : Nat) : List Int := (List.range k).map fun j => ((visitN s j : Nat) : Int)
theorem visitL_succ (s k : Nat) : visitL s (k + 1) = visitL s k ++ [((visitN s k : Nat) : Int)] := by simp [visitL, List.range_succ]
theorem visitL_len (s k : Nat) : (visitL s k).length = k := by simp [visitL]
theorem visitL_pre {s k m : Nat} (h : k ≤ m) : visitL s k <+: visitL s m := by
  obtain ⟨d, rfl⟩ := Nat.exists_eq_add_of_le h
  induction d with
  | zero => exact List.prefix_refl _
  | succ d ih =>
    refine (ih (by omega)).trans ?_
    rw [← Nat.add_assoc, visitL_succ]
    exact List.prefix_append _ _

set_option maxRecDepth 100000 in
set_option maxHeartbeats 2000000 in
theorem turn1_seq (bs s : Nat) (w : World) (h1 : 1 ≤ s) (h2 : s ≤ 512) (hb : Blk w bs #[.int .i64 s] 3) :
    SeqB Tryz.prog 178 #[.pointer (some ⟨bs, 0, none⟩)] encI (fun k => k ≠ bs)
      (fun ys => ys = visitL s s) (fun pre => pre <+: visitL s s) w := by
  intro lo C J Jx W hW hC hJ hJx hY h0
  have hKW := Keeps.of_below hW
  have hb0 := hb.keeps hKW (by simp)
  have HY := Lib.hid hY
  have HJ := Lib.hid hJ
  have HC := Lib.hid hC
  have HST := Lib.hid (fun w1 => step_any s w1 h1 h2)
  clear hb hY hJ hJx hC hW hKW
  refine callsIn_of_wp Tryz.func178 rfl trivial ?_ rfl
  simp only [Tryz.ntmps178, List.size_toArray, List.length_cons, List.length_nil, Nat.reduceAdd, Nat.reduceSub, Array.replicate_succ, Array.replicate_zero, List.push_toArray, List.append_toArray, List.nil_append, List.cons_append]
  obtain ⟨c0, -⟩ := hb0.one
  have hlt0 := hb0.lt
  gi_wp2
  clear c0
  gi_loopw [5] (fun s5 wr => ∃ k : Nat, k ≤ s ∧ s5 = .int .i64 k ∧ Blk wr bs #[.int .i64 s] 3 ∧ Hid (J (visitL s k) wr)) (fun s5 _ => s - (intOf s5).toNat)
  case atStart => exact ⟨0, Nat.zero_le _, rfl, hb0, h0⟩
  case round =>
    clear hb0
    obtain ⟨k, hk, rfl, hbk, hJs⟩ := hrel
    obtain ⟨c0, -⟩ := hbk.one
    by_cases hlt : k < s
    · have hkk : (k : Int) < (s : Int) := by omega
      obtain ⟨T, hT⟩ : ∃ T, stepN s = T := ⟨_, rfl⟩
      have hT8 : T ≤ 512 := by rw [← hT]; unfold stepN; split <;> omega
      have hkT : k * T ≤ 512 * 512 := Nat.mul_le_mul (by omega) hT8
      obtain ⟨V, hV⟩ : ∃ V, visitN s k = V := ⟨_, rfl⟩
      have hVe : (k : Int) * (T : Int) % (s : Int) = (V : Int) := by rw [← hV, ← hT, ← Int.natCast_mul]; rfl
      have hsp : visitL s (k + 1) = visitL s k ++ [(V : Int)] := by rw [visitL_succ, hV]
      have HSP := Lib.hid (show visitL s k ++ [(V : Int)] <+: visitL s s by rw [← hsp]; exact visitL_pre hlt)
      have hJd : J (visitL s k) wr.drew := HJ.out _ _ _ hJs.out (Below.refl _ wr).drew
      obtain ⟨fn, tmps, assign, body, hy, hR⟩ := HY.out (visitL s k) (V : Int) wr.drew hJd HSP.out
      have hR2 := (round_any (m := 8) hR).mono (R' := fun e W' => ∃ b : Bool, e = .returned (.bool b) ∧ Hid ((b = true → J (visitL s (k + 1)) W') ∧ (b = false → Jx (visitL s k ++ [(V : Int)]) W') ∧ Keeps wr.drew W' C)) (by
        rintro e W3 (⟨rfl, hJ3, hk3⟩ | ⟨rfl, hJx3, hk3⟩)
        · exact ⟨true, rfl, (fun _ => by rw [hsp]; exact hJ3), (fun h => by cases h), hk3⟩
        · exact ⟨false, rfl, (fun h => by cases h), (fun _ => hJx3), hk3⟩)
      rw [hT] at HST
      dsimp only [encI] at hy
      have HB := Lib.hid hbk
      have HSPE := Lib.hid hsp
      have hmix : Tryz.prog.follows .mixedOrders = true := by kernel_rfl
      clear hbk hsp hV hT hR hJd
      gi_wp2
      gi_region_with (first | (refine ⟨trivial, ?_⟩; gi_at_call 179; refine (callsIn_wide.2 (HST.out _)).mono ?_; rintro e w' ⟨rfl, rfl⟩) | (refine hR2.mono ?_; rintro e W3 ⟨b, rfl, hres⟩))
      all_goals
        cases b with
        | true =>
          have hb3 := HB.out.drew.keeps hres.out.2.2 (fun hm => (HC.out _ hm).2 rfl)
          have hJ3 := Lib.hid (hres.out.1 rfl)
          clear hres
          gi_wp2
          go_roundw
          case rel => exact ⟨k + 1, by omega, by go_num, hb3, hJ3⟩
          case measure => simp [intOf]; omega
        | false =>
          have hJ3 := Lib.hid (hres.out.2.1 rfl)
          clear hres
          gi_wp2
          first
            | (simp only [Exit.noGoto]; go_end0; exact ⟨⟨_, rfl⟩, .inr ⟨_, HSP.out, hJ3.out⟩⟩)
            | exact bodyPost_ret (v := .tuple #[]) (by simp [results, Tryz.results178]) rfl ⟨⟨_, rfl⟩, .inr ⟨_, HSP.out, hJ3.out⟩⟩
    · have hkk : decide ((k : Int) < (s : Int)) = false := decide_eq_false (by omega)
      have hks : k = s := by omega
      rw [hks] at hJs
      clear hks
      gi_wp2
      go_end0
      exact ⟨⟨_, rfl⟩, .inl ⟨_, rfl, hJs.out⟩⟩
end

section
set_option linter.unusedVariables false
set_option linter.unusedSimpArgs false
open Go.RowKit

/-- A row of numbers in a block of its own. -/
def RowI (w : World) (g n c : Nat) (L : List Int) : Prop := L.length = n ∧ w.ownsRow 0 3 1 (.slice (some ⟨g, 0, none⟩) n c) n (L.map (.int .i64))

section
variable {w w' : World} {g n c : Nat} {L : List Int}
theorem RowI.at (h : RowI w g n c L) {i : Nat} {x : Int} (hx : L[i]? = some x) : w.cell? ⟨g, i, none⟩ = some (.int .i64 x) := by
  have hlt := (List.getElem?_eq_some_iff.1 hx).1
  rw [h.2.cellAt i (by have := h.1; omega), List.getElem?_map, hx]; rfl
theorem RowI.frozen (h : RowI w g n c L) (i : Nat) : w.frozen? ⟨g, i, none⟩ = false := h.2.frozenAt i
theorem RowI.cap (h : RowI w g n c L) : n ≤ c := by
  rcases h.2.2 with ⟨h1, h2⟩ | ⟨g', cp, cur, h1, -, -, h4, -⟩
  · cases h1
  · cases h1; exact h4
theorem RowI.lt (h : RowI w g n c L) : g < w.heap.size := (h.2.lt g rfl).2
theorem RowI.set (h : RowI w g n c L) (i : Nat) (x : Int) : RowI (w.setCell ⟨g, i, none⟩ (.int .i64 x)) g n c (L.set i x) :=
  ⟨by rw [List.length_set]; exact h.1, by rw [List.map_set]; exact (h.2.stored i _).1⟩
theorem RowI.keeps {S : List Nat} (h : RowI w g n c L) (k : Keeps w w' S) (hn : g ∉ S) : RowI w' g n c L := by
  refine ⟨h.1, ?_⟩
  obtain ⟨h1, h2⟩ := h.2
  refine ⟨h1, ?_⟩
  rcases h2 with h2 | ⟨g', cp, cur, e, hg, hb, r⟩
  · exact .inl h2
  · cases e
    exact .inr ⟨g, c, cur, rfl, hg, (k.block g (Array.getElem?_eq_some_iff.1 hb).1 hn).trans hb, r⟩
theorem RowI.drew (h : RowI w g n c L) : RowI w.drew g n c L := h
theorem RowI.drewN (h : RowI w g n c L) (m : Nat) : RowI (w.drewN m) g n c L := h
theorem RowI.reads (h : RowI w g n c L) : RdI .i64 w (.slice (some ⟨g, 0, none⟩) n c) L := by
  have h2 := h.2
  rw [← h.1] at h2 ⊢
  exact own_reads h2
end

theorem rowI_own {w : World} {base : Nat} {g n c : Nat} {L : List Int} (hl : L.length = n) (h : w.ownsRow base 3 1 (.slice (some ⟨g, 0, none⟩) n c) n (L.map (.int .i64))) : RowI w g n c L := ⟨hl, own_base h (Nat.zero_le _)⟩
end

end Go.Proofs.YtophgpnnjphnmaaGreat
