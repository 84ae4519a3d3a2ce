/-
  The maps of an index in memory: what a map block holds as a function of padded keys; the runs of the operations on it.
-/
import Derived.Test.YticlhaofmcajpaaI1
import Derived.Test.YticlhaofmcajpaaSl
import Derived.Maps.Own
import Derived.Maps.OwnOps
import Derived.Maps.OwnSet
import Derived.DeepKeys4
import Derived.WideKeyEntry
namespace Go.Proofs.Yticlhaofmcajpaa
set_option linter.unusedVariables false
set_option linter.unusedSimpArgs false
set_option linter.unusedSectionVars false
open Go.RowKit Go.ChangeMaps Go.MapKept Go.Maps
open Go.WideElems (Fit rd rg pl rd_key rd_val)

theorem Try.keyLaw : WideMaps.KeyLaw Try.prog 64 := deep_law_laid (m := 3) Try.laidOut (by decide) (of_decide_eq_true (by kernel_rfl)) (by kernel_rfl) (by kernel_rfl)
theorem Try.keyed : Keyed Try.prog 64 := Keyed.of_law Try.keyLaw
theorem Try.typesN : Try.prog.types.size = Try.prog.types.size - 3 + 3 := by kernel_rfl

/-- A padded key as a value. -/
def keyV (q : List Int) : Value := .agg (q.map (.int .u8)).toArray
def KeyWf (q : List Int) : Prop := q.length = 8 ∧ ∀ x ∈ q, 0 ≤ x ∧ x ≤ 255
theorem u8_wf {x : Int} (h : 0 ≤ x ∧ x ≤ 255) : (Lit.int .u8 x).wf = true := by
  simp [Lit.wf, IntKind.min, IntKind.max, IntKind.signed, IntKind.bits]
  omega

theorem key_lit {q : List Int} (h : KeyWf q) : ∃ kl, keyOf Try.prog 64 (keyV q) = some kl := by
  obtain ⟨hl, hb⟩ := h
  match q, hl with
  | [x0, x1, x2, x3, x4, x5, x6, x7], _ =>
    have w0 := u8_wf (hb x0 (by simp))
    have w1 := u8_wf (hb x1 (by simp))
    have w2 := u8_wf (hb x2 (by simp))
    have w3 := u8_wf (hb x3 (by simp))
    have w4 := u8_wf (hb x4 (by simp))
    have w5 := u8_wf (hb x5 (by simp))
    have w6 := u8_wf (hb x6 (by simp))
    have w7 := u8_wf (hb x7 (by simp))
    have hu : Try.prog.underlying 64 = some (.array 8 5) := Try.underlying64
    have h5 : Try.prog.underlying 5 = some (.int .u8) := Try.underlying5
    have hk : Try.prog.keyType 64 = true := by kernel_rfl
    have hc : Try.prog.cellsOf 64 = 8 := by kernel_rfl
    have hc5 : Try.prog.cellsOf 5 = 1 := by kernel_rfl
    have hf : (keyV [x0, x1, x2, x3, x4, x5, x6, x7]).formed Try.prog 64 = true := by simp [keyV, Value.formed, hu, hc]
    have hcell : (keyV [x0, x1, x2, x3, x4, x5, x6, x7]).cells.toList = [.int .u8 x0, .int .u8 x1, .int .u8 x2, .int .u8 x3, .int .u8 x4, .int .u8 x5, .int .u8 x6, .int .u8 x7] := by simp [keyV, Value.cells]
    have hr : List.range 8 = [0, 1, 2, 3, 4, 5, 6, 7] := rfl
    unfold keyOf
    rw [hu]
    simp only [hk, hf, Bool.and_self, if_true]
    rw [Try.typesN, hcell]
    generalize Try.prog.types.size - 3 = n
    have h9 : Try.prog.keyLits (n + 3 + 1) 64 [.int .u8 x0, .int .u8 x1, .int .u8 x2, .int .u8 x3, .int .u8 x4, .int .u8 x5, .int .u8 x6, .int .u8 x7] =
        some [.int .u8 x0, .int .u8 x1, .int .u8 x2, .int .u8 x3, .int .u8 x4, .int .u8 x5, .int .u8 x6, .int .u8 x7] := by
      simp [Program.keyLits, hu, h5, hc, hc5, hr, w0, w1, w2, w3, w4, w5, w6, w7, List.mapM_cons]
    rw [h9]
    exact ⟨_, rfl⟩

theorem keyV_inj {a b : List Int} (h : keyV a = keyV b) : a = b := by
  simp only [keyV, Value.agg.injEq] at h
  have h2 : a.map (Value.int .u8) = b.map (Value.int .u8) := by simpa using congrArg Array.toList h
  exact List.map_inj_right (fun x y h => by simpa using h) |>.1 h2

/-- Block b of w is a map of at most n entries that holds what f says. -/
def MapF (w : World) (b n : Nat) (f : List Int → Option Int) : Prop :=
  ∃ D : DataW Unit, w.ownsMap Try.prog 64 (plainElem Try.prog 3) b n D ∧
    ∀ q kl, KeyWf q → keyOf Try.prog 64 (keyV q) = some kl → Maps.has D kl = (f q).isSome ∧ D.atKey kl (.lit (.int .i64 0)) = .lit (.int .i64 ((f q).getD 0))

theorem zeroInt (w : World) : (zeroValue 3).run Try.prog w = .ok (.int .i64 0) w := by kernel_rfl

section
variable {w w' : World} {b n : Nat} {f : List Int → Option Int} {q : List Int}

theorem MapF.lt (h : MapF w b n f) : b < w.heap.size := by obtain ⟨D, h, -⟩ := h; exact h.lt
theorem MapF.mono (h : MapF w b n f) {m : Nat} (hm : n ≤ m) : MapF w b m f := by obtain ⟨D, h, h2⟩ := h; exact ⟨D, h.mono hm, h2⟩
theorem MapF.keeps {S : List Nat} (h : MapF w b n f) (k : Keeps w w' S) (hn : b ∉ S) : MapF w' b n f := by
  obtain ⟨D, ⟨es, clock, hb, r⟩, h2⟩ := h
  exact ⟨D, ⟨es, clock, (k.block b (Array.getElem?_eq_some_iff.1 hb).1 hn).trans hb, r⟩, h2⟩
theorem MapF.made (w : World) : MapF (w.alloc (.map #[] 0)) w.heap.size 0 (fun _ => none) :=
  ⟨_, World.ownsMap_made w _ _ _, fun q kl _ _ => ⟨rfl, rfl⟩⟩

theorem MapF.look (h : MapF w b n f) (hq : KeyWf q) : (Instr.lookup 58 (.map (some b)) (keyV q) false).run Try.prog w = .ok (.int .i64 ((f q).getD 0)) w := by
  obtain ⟨D, h, h2⟩ := h
  obtain ⟨kl, hk⟩ := key_lit hq
  obtain ⟨c, hr, ha, -⟩ := h.lookup_int (t := 58) (q := .i64) Try.keyed Try.underlying58 Try.underlying3 (zeroInt w) hk
  rw [(h2 q kl hq hk).2] at ha
  have e : (f q).getD 0 = c := by simpa using ha
  rw [hr, e]
theorem MapF.look_ok (h : MapF w b n f) (hq : KeyWf q) : (Instr.lookup 58 (.map (some b)) (keyV q) true).run Try.prog w = .ok (.tuple #[.int .i64 ((f q).getD 0), .bool (f q).isSome]) w := by
  obtain ⟨D, h, h2⟩ := h
  obtain ⟨kl, hk⟩ := key_lit hq
  obtain ⟨v, ps, hr, hv⟩ := h.look_ok (t := 58) Try.keyed Try.underlying58 (zeroInt w) (plainElem_int Try.underlying3 (by decide)) hk
  obtain ⟨c, rfl, e, -⟩ := plainElem_int_inv Try.underlying3 hv
  rw [(h2 q kl hq hk).2] at e
  have e' : (f q).getD 0 = c := by simpa using congrArg Prod.fst e
  rw [hr, (h2 q kl hq hk).1, e']

theorem MapF.of_put {D : DataW Unit} {kl : Lit} {v : Int} {m : Nat} (K : w'.ownsMap Try.prog 64 (plainElem Try.prog 3) b m (D.put kl (.lit (.int .i64 v)))) (hq : KeyWf q) (hk : keyOf Try.prog 64 (keyV q) = some kl)
    (hD : Maps.IsMap D)
    (h2 : ∀ q kl, KeyWf q → keyOf Try.prog 64 (keyV q) = some kl → Maps.has D kl = (f q).isSome ∧ D.atKey kl (.lit (.int .i64 0)) = .lit (.int .i64 ((f q).getD 0))) : MapF w' b m (upd f q v) := by
  refine ⟨_, K, fun r rl hr hrl => ?_⟩
  by_cases e : r = q
  · subst e
    rw [hk] at hrl
    cases hrl
    have hkl := Try.keyed.key hk
    rw [Maps.has_put_same hD hkl, Maps.atKey_put_same hD hkl]
    simp [upd]
  · have hne : rl ≠ kl := fun e2 => by
      subst e2
      exact e (keyV_inj (Try.keyed.inj hrl hk))
    rw [Maps.has_put_other hne, Maps.atKey_put_other hne]
    simp only [upd, if_neg e]
    exact h2 r rl hr hrl

theorem MapF.update (h : MapF w b n f) (hq : KeyWf q) (v : Int) (hv : (Lit.int .i64 v).wf = true) (hn : n < maxLen) :
    ∃ w', (Instr.mapUpdate 58 (.map (some b)) (keyV q) (.int .i64 v)).run Try.prog w = .ok () w' ∧ MapF w' b (n + 1) (upd f q v) ∧ w.grownBy w' (some b) := by
  obtain ⟨D, h, h2⟩ := h
  obtain ⟨kl, hk⟩ := key_lit hq
  obtain ⟨w', hr, ho, hg⟩ := h.update (t := 58) Try.keyed Try.underlying58 hn hk (plainElem_int Try.underlying3 hv)
  exact ⟨w', hr, MapF.of_put ho hq hk h.isMap h2, hg⟩

theorem grown_setBlock (w : World) (b : Nat) (o : Obj) (h : b < w.heap.size) : w.grownBy (setBlock w b o) (some b) :=
  ⟨rfl, rfl, rfl, by simp [setBlock], fun i _ hi => by
    have hne : b ≠ i := fun e => hi (by rw [e])
    show (w.heap.setIfInBounds b o)[i]? = _
    rw [Array.getElem?_setIfInBounds, if_neg hne]⟩

/-- m[k]++ : the entry made ready, read, stored. -/
theorem MapF.entry (h : MapF w b n f) (hq : KeyWf q) (v : Int) (hv : (Lit.int .i64 v).wf = true) (hn : n < maxLen) :
    ∃ v0 st w2 w3, (Instr.mapEntry 58 (.map (some b)) (keyV q)).run Try.prog w = .ok (.tuple #[v0, .int .i64 st]) w2 ∧
      (Instr.lookup 58 (.map (some b)) (keyV q) false).run Try.prog w2 = .ok (.int .i64 ((f q).getD 0)) w2 ∧
      (Instr.entryStore 58 (.map (some b)) (.int .i64 st) (.int .i64 v)).run Try.prog w2 = .ok () w3 ∧
      MapF w3 b (n + 1) (upd f q v) ∧ w.grownBy w2 (some b) ∧ w.grownBy w3 (some b) := by
  obtain ⟨w3', hr3, hm3, hg3⟩ := h.update hq v hv hn
  obtain ⟨w1', hr1, hm1, hg1⟩ := h.update hq 0 (by decide) hn
  have hlook1 := hm1.look hq
  have hlt := h.lt
  obtain ⟨D, ⟨es, clock, hb, F, hs, hD⟩, h2⟩ := h
  obtain ⟨kl, hk⟩ := key_lit hq
  obtain ⟨v0, st, es1, clock1, e1, e2, e3⟩ := Go.WideElems.entry_then_store Try.keyLaw (t := 58) Try.underlying58 (fun u => zeroInt u) hb F hk
  have hb2 : (setBlock w b (.map es1 clock1)).heap[b]? = some (.map es1 clock1) := heap_setBlock_same hb _
  obtain ⟨es', clock', e4, e5⟩ := e3 _ (.int .i64 v) hb2
  have e35 : w3' = setBlock w b (.map es' clock') := by
    rw [hr3] at e5; injection e5
  have ess : setBlock (setBlock w b (.map es1 clock1)) b (.map es' clock') = setBlock w b (.map es' clock') := by simp [setBlock]
  refine ⟨v0, st, _, setBlock w b (.map es' clock'), e1, ?_, by rw [← ess]; exact e4, e35 ▸ hm3, grown_setBlock w b _ hlt, grown_setBlock w b _ hlt⟩
  have hz := zeroInt w
  have K := Try.keyed
  rcases K.find w hk es.toList F.keys with ⟨h1, h3⟩ | ⟨j, e0, h1, h3, h4⟩
  · have he : (Instr.mapEntry 58 (.map (some b)) (keyV q)).run Try.prog w = .ok (.tuple #[.int .i64 0, goInt clock]) (setBlock w b (.map (es.push ⟨keyV q, .int .i64 0, clock⟩) (clock + 1))) := by
      simp [Instr.mapEntry, run_underlying Try.underlying58, MapKept.run_getObj_map hb, K.check w false hk, h1, hz, MapKept.run_setObj_map _ hb, Result.andThen, setBlock]
    have hu : (Instr.mapUpdate 58 (.map (some b)) (keyV q) (.int .i64 0)).run Try.prog w = .ok () (setBlock w b (.map (es.push ⟨keyV q, .int .i64 0, clock⟩) (clock + 1))) := by
      simp [Instr.mapUpdate, run_underlying Try.underlying58, MapKept.run_getObj_map hb, K.check w false hk, h1, MapKept.run_setObj_map _ hb, Result.andThen, setBlock]
    rw [hr1] at hu
    rw [e1] at he
    have ew : w1' = setBlock w b (.map (es.push ⟨keyV q, .int .i64 0, clock⟩) (clock + 1)) := by injection hu
    have ew2 : setBlock w b (.map es1 clock1) = setBlock w b (.map (es.push ⟨keyV q, .int .i64 0, clock⟩) (clock + 1)) := by injection he
    rw [ew2, ← ew, hlook1]
    rcases Maps.fit_look false K Try.underlying58 hz hb F hk with ⟨-, -, hat⟩ | ⟨x0, y, hx1, hx2, -⟩
    · have h5 := hat (.lit (.int .i64 0))
      rw [← hD, (h2 q kl hq hk).2] at h5
      have h6 : (f q).getD 0 = 0 := by simpa using h5
      rw [h6]; simp [upd]
    · exact absurd hx2 (h3 x0 hx1)
  · have hj : es[j]? = some e0 := by simpa using h3
    have hsame : es.modify j (fun e => { e with key := keyV q }) = es := by
      apply Array.ext'
      rw [Array.toList_modify, ChangeMaps.modify_eq_set _ _ _ _ h3]
      have : ({ e0 with key := keyV q } : MapEntry) = e0 := by rw [← h4]
      rw [this]
      exact Go.WideElems.set_self _ _ _ h3
    have he : (Instr.mapEntry 58 (.map (some b)) (keyV q)).run Try.prog w = .ok (.tuple #[e0.val, goInt e0.born]) (setBlock w b (.map es clock)) := by
      simp [Instr.mapEntry, run_underlying Try.underlying58, MapKept.run_getObj_map hb, K.check w false hk, h1, hj, h4, K.stays w hk, hsame, MapKept.run_setObj_map _ hb, Result.andThen, setBlock]
    rw [e1] at he
    have ew2 : setBlock w b (.map es1 clock1) = setBlock w b (.map es clock) := by injection he
    rw [ew2]
    have hm : MapF (setBlock w b (.map es clock)) b n f := ⟨D, ⟨es, clock, heap_setBlock_same hb _, F, hs, hD⟩, h2⟩
    exact hm.look hq
end

end Go.Proofs.Yticlhaofmcajpaa
