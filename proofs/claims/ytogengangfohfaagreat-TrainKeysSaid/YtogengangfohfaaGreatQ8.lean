/-
  Maps of strings in memory: what a map block holds as a function of keys; the runs of the operations on it.
-/
import Derived.Test.YtogengangfohfaaGreatQ2
import Derived.Test.YtogengangfohfaaGreatQ7
import Derived.Maps.Own
import Derived.Maps.OwnOps
import Derived.Maps.OwnSet
import Derived.DeepKeys4
import Derived.WideKeyEntry
namespace Go.Proofs.YtogengangfohfaaGreat
set_option linter.unusedVariables false
set_option linter.unusedSimpArgs false
set_option linter.unusedSectionVars false
open Go.RowKit Go.ChangeMaps Go.MapKept Go.Maps
open Go.WideElems (Fit rd rg pl rd_key rd_val)

theorem Tryz.keyLaw : WideMaps.KeyLaw Tryz.prog 9 := WideMaps.string_law Tryz.underlying9
theorem Tryz.keyed : Keyed Tryz.prog 9 := Keyed.of_law Tryz.keyLaw

/-- A key as a value. -/
abbrev keyS (q : List Int) : Value := .string (strOfNums q)
def KeyWf (q : List Int) : Prop := q.length ≤ 6 ∧ ∀ x ∈ q, 0 ≤ x ∧ x ≤ 255
def upd (f : List Int → Option Int) (q : List Int) (v : Int) : List Int → Option Int := fun r => if r = q then some v else f r
def del (f : List Int → Option Int) (q : List Int) : List Int → Option Int := fun r => if r = q then none else f r

theorem key_lit {q : List Int} (h : KeyWf q) : ∃ kl, keyOf Tryz.prog 9 (keyS q) = some kl :=
  ⟨_, WideMaps.keyOf_string_mk Tryz.underlying9 (by rw [strOfNums_size]; have := h.1; unfold maxLen; omega)⟩
theorem strOf_inj : ∀ {a b : List Int}, (∀ x ∈ a, 0 ≤ x ∧ x ≤ 255) → (∀ x ∈ b, 0 ≤ x ∧ x ≤ 255) → strOfNums a = strOfNums b → a = b := by
  intro a b ha hb h
  have h2 : (strOfNums a).data.toList = (strOfNums b).data.toList := by rw [h]
  rw [strOfNums_data, strOfNums_data] at h2
  clear h
  induction a generalizing b with
  | nil => cases b with
    | nil => rfl
    | cons y b => simp at h2
  | cons x a ih => cases b with
    | nil => simp at h2
    | cons y b =>
      simp only [List.map_cons, List.cons.injEq] at h2
      have e : x = y := by
        have h3 := congrArg UInt8.toNat h2.1
        have hx := ha x (by simp)
        have hy := hb y (by simp)
        simp at h3
        omega
      rw [e, ih (fun z hz => ha z (by simp [hz])) (fun z hz => hb z (by simp [hz])) h2.2]
theorem keyS_inj {a b : List Int} (ha : KeyWf a) (hb : KeyWf b) (h : keyS a = keyS b) : a = b := by
  simp only [keyS, Value.string.injEq] at h
  exact strOf_inj ha.2 hb.2 h
theorem win_wf {b k : List Int} (hb : ∀ x ∈ b, 0 ≤ x ∧ x ≤ 255) (h : k ∈ wins b) : KeyWf k := by
  refine ⟨?_, win_byte hb h⟩
  obtain ⟨i, _, rfl⟩ := mem_wins.1 h
  simp; omega

/-- Block b of w is a map of at most n entries that holds what f says. -/
def MapS (w : World) (b n : Nat) (f : List Int → Option Int) : Prop :=
  ∃ D : DataW Unit, w.ownsMap Tryz.prog 9 (plainElem Tryz.prog 3) b n D ∧
    ∀ q kl, KeyWf q → keyOf Tryz.prog 9 (keyS q) = some kl → Maps.has D kl = (f q).isSome ∧ D.atKey kl (.lit (.int .i64 0)) = .lit (.int .i64 ((f q).getD 0))

theorem zeroInt (w : World) : (zeroValue 3).run Tryz.prog w = .ok (.int .i64 0) w := by kernel_rfl

section
variable {w w' : World} {b n : Nat} {f : List Int → Option Int} {q : List Int}

theorem MapS.lt (h : MapS w b n f) : b < w.heap.size := by obtain ⟨D, h, -⟩ := h; exact h.lt
theorem MapS.mono (h : MapS w b n f) {m : Nat} (hm : n ≤ m) : MapS w b m f := by obtain ⟨D, h, h2⟩ := h; exact ⟨D, h.mono hm, h2⟩
theorem MapS.keeps {S : List Nat} (h : MapS w b n f) (k : Keeps w w' S) (hn : b ∉ S) : MapS w' b n f := by
  obtain ⟨D, ⟨es, clock, hb, r⟩, h2⟩ := h
  exact ⟨D, ⟨es, clock, (k.block b (Array.getElem?_eq_some_iff.1 hb).1 hn).trans hb, r⟩, h2⟩
theorem MapS.made (w : World) : MapS (w.alloc (.map #[] 0)) w.heap.size 0 (fun _ => none) :=
  ⟨_, World.ownsMap_made w _ _ _, fun q kl _ _ => ⟨rfl, rfl⟩⟩

theorem MapS.look (h : MapS w b n f) (hq : KeyWf q) : (Instr.lookup 80 (.map (some b)) (keyS q) false).run Tryz.prog w = .ok (.int .i64 ((f q).getD 0)) w := by
  obtain ⟨D, h, h2⟩ := h
  obtain ⟨kl, hk⟩ := key_lit hq
  obtain ⟨c, hr, ha, -⟩ := h.lookup_int (t := 80) (q := .i64) Tryz.keyed Tryz.underlying80 Tryz.underlying3 (zeroInt w) hk
  rw [(h2 q kl hq hk).2] at ha
  have e : (f q).getD 0 = c := by simpa using ha
  rw [hr, e]
theorem MapS.look_ok (h : MapS w b n f) (hq : KeyWf q) : (Instr.lookup 80 (.map (some b)) (keyS q) true).run Tryz.prog w = .ok (.tuple #[.int .i64 ((f q).getD 0), .bool (f q).isSome]) w := by
  obtain ⟨D, h, h2⟩ := h
  obtain ⟨kl, hk⟩ := key_lit hq
  obtain ⟨v, ps, hr, hv⟩ := h.look_ok (t := 80) Tryz.keyed Tryz.underlying80 (zeroInt w) (plainElem_int Tryz.underlying3 (by decide)) hk
  obtain ⟨c, rfl, e, -⟩ := plainElem_int_inv Tryz.underlying3 hv
  rw [(h2 q kl hq hk).2] at e
  have e' : (f q).getD 0 = c := by simpa using congrArg Prod.fst e
  rw [hr, (h2 q kl hq hk).1, e']

theorem MapS.of_put {D : DataW Unit} {kl : Lit} {v : Int} {m : Nat} (K : w'.ownsMap Tryz.prog 9 (plainElem Tryz.prog 3) b m (D.put kl (.lit (.int .i64 v)))) (hq : KeyWf q) (hk : keyOf Tryz.prog 9 (keyS q) = some kl)
    (hD : Maps.IsMap D)
    (h2 : ∀ q kl, KeyWf q → keyOf Tryz.prog 9 (keyS q) = some kl → Maps.has D kl = (f q).isSome ∧ D.atKey kl (.lit (.int .i64 0)) = .lit (.int .i64 ((f q).getD 0))) : MapS w' b m (upd f q v) := by
  refine ⟨_, K, fun r rl hr hrl => ?_⟩
  by_cases e : r = q
  · subst e
    rw [hk] at hrl
    cases hrl
    have hkl := Tryz.keyed.key hk
    rw [Maps.has_put_same hD hkl, Maps.atKey_put_same hD hkl]
    simp [upd]
  · have hne : rl ≠ kl := fun e2 => by
      subst e2
      exact e (keyS_inj hr hq (Tryz.keyed.inj hrl hk))
    rw [Maps.has_put_other hne, Maps.atKey_put_other hne]
    simp only [upd, if_neg e]
    exact h2 r rl hr hrl

theorem MapS.update (h : MapS w b n f) (hq : KeyWf q) (v : Int) (hv : (Lit.int .i64 v).wf = true) (hn : n < maxLen) :
    ∃ w', (Instr.mapUpdate 80 (.map (some b)) (keyS q) (.int .i64 v)).run Tryz.prog w = .ok () w' ∧ MapS w' b (n + 1) (upd f q v) ∧ w.grownBy w' (some b) := by
  obtain ⟨D, h, h2⟩ := h
  obtain ⟨kl, hk⟩ := key_lit hq
  obtain ⟨w', hr, ho, hg⟩ := h.update (t := 80) Tryz.keyed Tryz.underlying80 hn hk (plainElem_int Tryz.underlying3 hv)
  exact ⟨w', hr, MapS.of_put ho hq hk h.isMap h2, hg⟩

theorem grown_setBlock (w : World) (b : Nat) (o : Obj) (h : b < w.heap.size) : w.grownBy (setBlock w b o) (some b) :=
  ⟨rfl, rfl, rfl, by simp [setBlock], fun i _ hi => by
    have hne : b ≠ i := fun e => hi (by rw [e])
    show (w.heap.setIfInBounds b o)[i]? = _
    rw [Array.getElem?_setIfInBounds, if_neg hne]⟩

/-- m[k]++ : the entry made ready, read, stored. -/
theorem MapS.entry (h : MapS w b n f) (hq : KeyWf q) (v : Int) (hv : (Lit.int .i64 v).wf = true) (hn : n < maxLen) :
    ∃ v0 st w2 w3, (Instr.mapEntry 80 (.map (some b)) (keyS q)).run Tryz.prog w = .ok (.tuple #[v0, .int .i64 st]) w2 ∧
      (Instr.lookup 80 (.map (some b)) (keyS q) false).run Tryz.prog w2 = .ok (.int .i64 ((f q).getD 0)) w2 ∧
      (Instr.entryStore 80 (.map (some b)) (.int .i64 st) (.int .i64 v)).run Tryz.prog w2 = .ok () w3 ∧
      MapS w3 b (n + 1) (upd f q v) ∧ w.grownBy w2 (some b) ∧ w.grownBy w3 (some b) := by
  obtain ⟨w3', hr3, hm3, hg3⟩ := h.update hq v hv hn
  obtain ⟨w1', hr1, hm1, hg1⟩ := h.update hq 0 (by decide) hn
  have hlook1 := hm1.look hq
  have hlt := h.lt
  obtain ⟨D, ⟨es, clock, hb, F, hs, hD⟩, h2⟩ := h
  obtain ⟨kl, hk⟩ := key_lit hq
  obtain ⟨v0, st, es1, clock1, e1, e2, e3⟩ := Go.WideElems.entry_then_store Tryz.keyLaw (t := 80) Tryz.underlying80 (fun u => zeroInt u) hb F hk
  have hb2 : (setBlock w b (.map es1 clock1)).heap[b]? = some (.map es1 clock1) := heap_setBlock_same hb _
  obtain ⟨es', clock', e4, e5⟩ := e3 _ (.int .i64 v) hb2
  have e35 : w3' = setBlock w b (.map es' clock') := by
    rw [hr3] at e5; injection e5
  have ess : setBlock (setBlock w b (.map es1 clock1)) b (.map es' clock') = setBlock w b (.map es' clock') := by simp [setBlock]
  refine ⟨v0, st, _, setBlock w b (.map es' clock'), e1, ?_, by rw [← ess]; exact e4, e35 ▸ hm3, grown_setBlock w b _ hlt, grown_setBlock w b _ hlt⟩
  have hz := zeroInt w
  have K := Tryz.keyed
  rcases K.find w hk es.toList F.keys with ⟨h1, h3⟩ | ⟨j, e0, h1, h3, h4⟩
  · have he : (Instr.mapEntry 80 (.map (some b)) (keyS q)).run Tryz.prog w = .ok (.tuple #[.int .i64 0, goInt clock]) (setBlock w b (.map (es.push ⟨keyS q, .int .i64 0, clock⟩) (clock + 1))) := by
      simp [Instr.mapEntry, run_underlying Tryz.underlying80, MapKept.run_getObj_map hb, K.check w false hk, h1, hz, MapKept.run_setObj_map _ hb, Result.andThen, setBlock]
    have hu : (Instr.mapUpdate 80 (.map (some b)) (keyS q) (.int .i64 0)).run Tryz.prog w = .ok () (setBlock w b (.map (es.push ⟨keyS q, .int .i64 0, clock⟩) (clock + 1))) := by
      simp [Instr.mapUpdate, run_underlying Tryz.underlying80, MapKept.run_getObj_map hb, K.check w false hk, h1, MapKept.run_setObj_map _ hb, Result.andThen, setBlock]
    rw [hr1] at hu
    rw [e1] at he
    have ew : w1' = setBlock w b (.map (es.push ⟨keyS q, .int .i64 0, clock⟩) (clock + 1)) := by injection hu
    have ew2 : setBlock w b (.map es1 clock1) = setBlock w b (.map (es.push ⟨keyS q, .int .i64 0, clock⟩) (clock + 1)) := by injection he
    rw [ew2, ← ew, hlook1]
    rcases Maps.fit_look false K Tryz.underlying80 hz hb F hk with ⟨-, -, hat⟩ | ⟨x0, y, hx1, hx2, -⟩
    · have h5 := hat (.lit (.int .i64 0))
      rw [← hD, (h2 q kl hq hk).2] at h5
      have h6 : (f q).getD 0 = 0 := by simpa using h5
      rw [h6]; simp [upd]
    · exact absurd hx2 (h3 x0 hx1)
  · have hj : es[j]? = some e0 := by simpa using h3
    have hsame : es.modify j (fun e => { e with key := keyS q }) = es := by
      apply Array.ext'
      rw [Array.toList_modify, ChangeMaps.modify_eq_set _ _ _ _ h3]
      have : ({ e0 with key := keyS q } : MapEntry) = e0 := by rw [← h4]
      rw [this]
      exact Go.WideElems.set_self _ _ _ h3
    have he : (Instr.mapEntry 80 (.map (some b)) (keyS q)).run Tryz.prog w = .ok (.tuple #[e0.val, goInt e0.born]) (setBlock w b (.map es clock)) := by
      simp [Instr.mapEntry, run_underlying Tryz.underlying80, MapKept.run_getObj_map hb, K.check w false hk, h1, hj, h4, K.stays w hk, hsame, MapKept.run_setObj_map _ hb, Result.andThen, setBlock]
    rw [e1] at he
    have ew2 : setBlock w b (.map es1 clock1) = setBlock w b (.map es clock) := by injection he
    rw [ew2]
    have hm : MapS (setBlock w b (.map es clock)) b n f := ⟨D, ⟨es, clock, heap_setBlock_same hb _, F, hs, hD⟩, h2⟩
    exact hm.look hq
/-- delete(m, k). -/
theorem MapS.delete (h : MapS w b n f) (hq : KeyWf q) (ty : TypeId) :
    ∃ w', (Builtin.delete_ #[80, 9] ty #[.map (some b), keyS q]).run Tryz.prog w = .ok (.tuple #[]) w' ∧ MapS w' b n (del f q) ∧ w.grownBy w' (some b) := by
  obtain ⟨D, h, h2⟩ := h
  obtain ⟨kl, hk⟩ := key_lit hq
  obtain ⟨w', hr, ho, hg⟩ := h.drop (t := 80) Tryz.keyed Tryz.underlying80 hk ty
  refine ⟨w', hr, ⟨_, ho, fun r rl hr hrl => ?_⟩, hg.grown⟩
  by_cases e : r = q
  · subst e
    rw [hk] at hrl
    cases hrl
    rw [has_del_same, atKey_del_same]
    simp [del]
  · have hne : rl ≠ kl := fun e2 => by
      subst e2
      exact e (keyS_inj hr hq (Tryz.keyed.inj hrl hk))
    rw [has_del_other hne, atKey_del_other hne]
    simp only [del, if_neg e]
    exact h2 r rl hr hrl
theorem MapS.alloc (h : MapS w b n f) (o : Obj) : MapS (w.alloc o) b n f := h.keeps ((Keeps.refl w []).alloc o) (by simp)
end

section
variable {w : World} {ops : Array Oper} {rest : List Oper} {o : Oper} {a : Act} {Q : Exit → Act → World → Prop} {m x v : Operand} {b n : Nat} {f : List Int → Option Int} {q : List Int} {z : Int}
theorem wpList_lookS (hg : o.guard = none) (hop : o.op = Op.lookup 80 m x false) (hm : a.eval m = .map (some b)) (hx : a.eval x = keyS q) (h : MapS w b n f) (hq : KeyWf q)
    (hK : wpList Tryz.prog ops Q rest (a.put o.dst (.int .i64 ((f q).getD 0))) w) : wpList Tryz.prog ops Q (o :: rest) a w := by
  refine wpList_plain hg fun K' hK' => ?_
  have hrun := h.look hq
  unfold Oper.wp
  simp [execOp, hop, hm, hx, hrun, Result.andThen]
  exact hK' _ _ hK
theorem wpList_updS (hg : o.guard = none) (hop : o.op = Op.mapUpdate 80 m x v) (hm : a.eval m = .map (some b)) (hx : a.eval x = keyS q) (hv : a.eval v = .int .i64 z) (h : MapS w b n f) (hq : KeyWf q) (hz : (Lit.int .i64 z).wf = true) (hn : n < maxLen)
    (hK : ∀ w', MapS w' b (n + 1) (upd f q z) → Keeps w w' [b] → wpList Tryz.prog ops Q rest (a.put o.dst undef) w') : wpList Tryz.prog ops Q (o :: rest) a w := by
  refine wpList_plain hg fun K' hK' => ?_
  obtain ⟨w', hrun, h1, h2⟩ := h.update hq z hz hn
  unfold Oper.wp
  simp [execOp, hop, hm, hx, hv, hrun, Result.andThen]
  exact hK' _ _ (hK w' h1 (Keeps.of_grown h2 (fun k hk => by cases hk; simp)))
theorem wpList_delS (hg : o.guard = none) (hop : o.op = Op.call { callee := Callee.builtin Builtin.delete, args := #[m, x], argTypes := #[80, 9] }) (hm : a.eval m = .map (some b)) (hx : a.eval x = keyS q) (h : MapS w b n f) (hq : KeyWf q)
    (hK : ∀ w', MapS w' b n (del f q) → Keeps w w' [b] → wpList Tryz.prog ops Q rest (a.put o.dst (.tuple #[])) w') : wpList Tryz.prog ops Q (o :: rest) a w := by
  refine wpList_plain hg fun K' hK' => ?_
  obtain ⟨w', hrun, h1, h2⟩ := h.delete hq o.type
  unfold Oper.wp
  simp [execOp, hop, resolve, invoke, builtin, hm, hx, hrun, Result.andThen]
  exact hK' _ _ (hK w' h1 (Keeps.of_grown h2 (fun k hk => by cases hk; simp)))
end

/-- How often the keys of a list stand in it. -/
def cntF (ws : List (List Int)) : List Int → Option Int := fun q => if ws.count q = 0 then none else some (ws.count q : Int)
theorem cntF_get (ws : List (List Int)) (q : List Int) : (cntF ws q).getD 0 = (ws.count q : Int) := by
  unfold cntF; split <;> simp <;> omega
theorem cntF_snoc (ws : List (List Int)) (k : List Int) : upd (cntF ws) k ((ws.count k : Int) + 1) = cntF (ws ++ [k]) := by
  funext r
  simp only [upd, cntF, List.count_append, List.count_singleton]
  by_cases e : r = k
  · subst e; simp
  · have e' : ¬ k = r := fun h => e h.symm
    simp [e, e']
theorem cntF_nil : cntF [] = fun _ => none := by funext q; simp [cntF]


end Go.Proofs.YtogengangfohfaaGreat
