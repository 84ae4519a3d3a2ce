/-
  Increasing: the sorted symbols, its iterator.
-/
import Derived.Test.YtedojgbjfenmaaaT5
import Derived.Test.YtedojgbjfenmaaaT13
import Derived.Test.YtedojgbjfenmaaaSo9
import Derived.Test.YtedojgbjfenmaaaRF
namespace Go.Proofs.Ytedojgbjfenmaaa
set_option linter.unusedVariables false
set_option linter.unusedSimpArgs false
open Go.RowKit

/-- The count of a symbol. -/
def keyC (l : List Int) (s : Int) : Int := (l[s.toNat]?).getD 0
theorem keyC_at {l : List Int} {a : Nat} {x : Int} (h : l[a]? = some x) : keyC l (a : Int) = x := by simp [keyC, h]

set_option maxHeartbeats 1000000 in
/-- The comparison of two symbols' counts. -/
theorem incr2_any (pb a b : Nat) (x y : Int) (v : Value) (l : List Int) (w : World) (hp : Blk w pb #[v] 26) (hv : RdI .i64 w v l) (hx : l[a]? = some x) (hy : l[b]? = some y) (hx0 : 0 ≤ x) (hx1 : x ≤ 2147483648) (hy0 : 0 ≤ y) (hy1 : y ≤ 2147483648) (hn : l.length ≤ 1000000) :
    Calls Try.prog 54 #[.int .i64 a, .int .i64 b, .pointer (some ⟨pb, 0, none⟩)] w fun e w' => e = .returned (.int .i64 (x - y)) ∧ ∃ m, w' = w.drewN m := by
  obtain ⟨A0, n, cp0, rfl, hnl, -⟩ := hv.form
  have hla := (List.getElem?_eq_some_iff.1 hx).1
  have hlb := (List.getElem?_eq_some_iff.1 hy).1
  obtain ⟨c0, -⟩ := hp.one
  obtain ⟨b1, o1, rfl, hb1, hc1⟩ := hv.at hx
  obtain ⟨b2, o2, he, hb2, hc2⟩ := hv.at hy
  cases he
  have hcap := hv.cap
  have ha1 : (a : Int) < (n : Int) := by omega
  have hb1' : (b : Int) < (n : Int) := by omega
  have ha0 : (0 : Int) ≤ (a : Int) := Int.natCast_nonneg _
  have hb0 : (0 : Int) ≤ (b : Int) := Int.natCast_nonneg _
  clear hp hv hx hy hla hlb hnl
  have hw : IntKind.i64.wrap (x - y) = x - y := IntWalk.i64_in _ (by omega)
  go_enter Try.func54, Try.ntmps54
  go_wp2_with fail
  go_quiet (fail)
  go_wp2_with fail
  go_ret
  exact ⟨by first | rfl | trivial, nq, by first | rfl | trivial⟩

theorem incr2_ok (pb g : Nat) (v : Value) (l : List Int) (w : World) (hp : Blk w pb #[v] 26) (hv : RdI .i64 w v l) (hr : ∀ x ∈ l, 0 ≤ x ∧ x ≤ 2147483648) (hn : l.length ≤ 1000000) (hg : pb ≠ g) (hvg : ∀ ad n cp, v = .slice (some ad) n cp → 0 < n → ad.block ≠ g) :
    CmpOk Try.prog 54 #[.pointer (some ⟨pb, 0, none⟩)] (keyC l) g (fun s => ∃ j : Nat, s = (j : Int) ∧ j < l.length) w := by
  rintro w' k _ _ ⟨a, rfl, ha⟩ ⟨b, rfl, hb⟩
  obtain ⟨x, hx⟩ : ∃ x, l[a]? = some x := ⟨_, List.getElem?_eq_getElem ha⟩
  obtain ⟨y, hy⟩ : ∃ y, l[b]? = some y := ⟨_, List.getElem?_eq_getElem hb⟩
  have h1 := hr x (List.mem_of_getElem? hx)
  have h2 := hr y (List.mem_of_getElem? hy)
  have G := incr2_any pb a b x y v l w' (hp.keeps k (by simpa using hg)) (hv.keepsS k (fun ad n cp he h0 hm => hvg ad n cp he h0 (List.mem_singleton.1 hm))) hx hy h1.1 h1.2 h2.1 h2.2 hn
  have e : cmpR (keyC l) (a : Int) (b : Int) = x - y := by unfold cmpR; rw [keyC_at hx, keyC_at hy]
  rw [e]
  exact G

theorem incr1_any (v : Value) (l : List Int) (w : World) (hv : RdI .i64 w v l) (hn : l.length ≤ 1000000) :
    Calls Try.prog 52 #[.agg #[v]] w (OwnEnd w 3 .i64 (usedL l)) := by
  have HG : Hid (∀ w', Keeps w w' [] → Calls Try.prog 43 #[v] w' (OwnEnd w' 3 .i64 (usedL l))) := fun w' k => used_any v l w' (hv.keeps k) hn
  obtain ⟨A0, n, cp0, rfl, -⟩ := hv.form
  clear hv hn
  generalize usedL l = U at *
  go_enter Try.func52, Try.ntmps52
  go_wp2_with fail
  refine (HG.out _ ((Keeps.refl w []).alloc _)).mono ?_
  rintro e w1 ⟨v1, rfl, own, kk⟩
  obtain ⟨ad1, cp1, rfl⟩ := own_form own
  go_wp2_with fail
  go_ret
  exact ⟨_, rfl, own_base own (by simp), ((Keeps.refl w []).alloc _).then kk⟩

/-- The used symbols of a valid histogram, by rising counts; those of equal counts in their order. -/
def Rising (l Z : List Int) : Prop := if rightL l then EqF (keyC l) (usedL l) Z ∧ Srt (keyC l) Z else Z = []
theorem Rising.uniq {l Z Z' : List Int} (h : Rising l Z) (h' : Rising l Z') : Z = Z' := by
  unfold Rising at h h'
  split at h
  · rw [if_pos (by assumption)] at h'
    exact Srt.uniq h.2 h'.2 (h.1.symm.trans h'.1)
  · rw [if_neg (by assumption)] at h'
    rw [h, h']

/-- How Increasing ends: a closure over the symbols Z and a copy of the counts. -/
def IncEnd (w : World) (l : List Int) (e : Ending) (w' : World) : Prop :=
  ∃ bs bo vs vo Z, e = .returned (.func (.func 55) #[] #[.pointer (some ⟨bs, 0, none⟩), .pointer (some ⟨bo, 0, none⟩)]) ∧
    Blk w' bs #[vs] 26 ∧ Blk w' bo #[vo] 26 ∧ RdI .i64 w' vs Z ∧ RdI .i64 w' vo l ∧ Rising l Z ∧ (∀ s ∈ Z, ∃ j : Nat, s = (j : Int) ∧ j < l.length) ∧
    w.heap.size ≤ bs ∧ w.heap.size ≤ bo ∧ (∀ ad n cp, vs = .slice (some ad) n cp → w.heap.size ≤ ad.block ∧ ad.block < w'.heap.size) ∧ (∀ ad n cp, vo = .slice (some ad) n cp → w.heap.size ≤ ad.block ∧ ad.block < w'.heap.size) ∧ Keeps w w' []

end Go.Proofs.Ytedojgbjfenmaaa
