/-
  Walks over package limit: the lists of two packages joined; two sorted lists of packages merged.
-/
import Derived.Test.YthjbngnihcmedaaJC
import Derived.ArgAppend
import Derived.Deep.QuietTactic
import Derived.BigQuiet
namespace Go.Proofs.Ythjbngnihcmedaa
set_option linter.unusedVariables false
set_option linter.unusedSimpArgs false
set_option linter.unusedSectionVars false
open Go.RowKit

/-- How the joining of two lists ends. -/
def BothEnd (w : World) (A B : List Int) (e : Ending) (w' : World) : Prop :=
  ∃ v, e = .returned v ∧ RdI .i64 w' v (A ++ B) ∧ (∀ ad n c, v = .slice (some ad) n c → w.heap.size ≤ ad.block ∧ ad.block < w'.heap.size) ∧ Keeps w w' []

theorem slice_3I {P : Program} {t e : TypeId} (ht : P.underlying t = some (.slice e)) {i0 : TypeInfo} (hi : P.info? e = some i0) (h1 : i0.size = 1) {a : Option Addr} {n c : Nat} (hc : n ≤ c) (w' : World) :
    (Instr.slice t (.slice a n c) none (some (.int .i64 n)) (some (.int .i64 n))).run P w' = .ok (.slice a n n) w' := by
  have e0 : a.map (·.add 0) = a := by cases a <;> simp [Addr.add]
  simp [Instr.slice, Instr.sliceBounds, Instr.sliceBound, asIntOf, run_underlying ht, go_sem, sizeOf, typeInfo, hi, h1, hc, e0]

set_option maxHeartbeats 1000000 in
theorem lengths2_any (va vb : Value) (A B : List Int) (w : World) (ha : RdI .i64 w va A) (hb : RdI .i64 w vb B) (hB : 0 < B.length) (hl : A.length + B.length ≤ 1000000) :
    Calls Try.prog 40 #[va, vb] w (BothEnd w A B) := by
  obtain ⟨aa, na, ca, rfl, hna, hza, hca⟩ := ha.form
  obtain ⟨ab, nb, cb, rfl, hnb, hzb, hcb⟩ := hb.form
  obtain ⟨i0, hi, hz0, hz1, hz2⟩ := info_parts Try.infoInt
  obtain ⟨hcapb, bb, ob, rfl, hbb, hcellb⟩ := hcb (by omega)
  have hcapa := ha.cap
  have HA := Lib.hid ha
  have hsl : ∀ w', (Instr.slice 22 (.slice aa na ca) none (some (.int .i64 na)) (some (.int .i64 na))).run Try.prog w' = .ok (.slice aa na na) w' := slice_3I Try.underlying22 hi hz1 hcapa
  have HNA := Lib.hid hna
  have HNB := Lib.hid hnb
  have HZA := Lib.hid hza
  have hnew : Hid (∀ j u, (B.map (Value.int .i64))[j]? = some u → w.cell? ((⟨bb, ob, none⟩ : Addr).add j) = some u) := hb.news
  have hold : Hid (∀ b, aa = some b → ∀ j u, (A.map (Value.int .i64))[j]? = some u → w.cell? (b.add j) = some u) := fun b he => by subst he; exact HA.out.news
  have hfull : na < na + nb := by omega
  clear ha hb hza hca hzb hcb hcellb hnb hna
  go_enter Try.func40, Try.ntmps40
  go_wp2_with (first | (at_builtin; refine wpList_append_grows _ rfl (.tmp 10) (.tmp 11) 22 rfl 3 i0 (.int .i64 0) 1 8 Try.underlying22 hi hz0 hz1 hz2 rfl (by decide) aa na na (A.map (.int .i64)) rfl (fun h => ⟨(HZA.out h).1, (HZA.out h).1⟩) (by have := HNA.out; simp; omega) hold.out ⟨bb, ob, none⟩ nb cb (B.map (.int .i64)) rfl (by have := HNB.out; simp; omega) hnew.out (nums_one .i64 B) hfull (by unfold maxLen; have := HNA.out; have := HNB.out; omega) (by have := HNA.out; have := HNB.out; omega) ?_; intro v3 w3 own3 hg3; have OWN3 := Lib.hid own3; have HG3 := Lib.hid hg3; clear own3 hg3))
  go_ret
  have e := OWN3.out
  rw [show na + nb = (A ++ B).length by have := HNA.out; have := HNB.out; simp; omega, ← List.map_append] at e
  exact ⟨v3, rfl, own_reads e, fun ad n c h => e.lt ad.block (by rw [h]; rfl), Keeps.of_grown HG3.out (fun j h => by cases h)⟩

set_option maxHeartbeats 1000000 in
theorem unlimited2_any (va vb : Value) (A B : List Int) (w : World) (ha : RdI .i64 w va A) (hb : RdI .i64 w vb B) (hB : 0 < B.length) (hl : A.length + B.length ≤ 1000000) :
    Calls Try.prog 45 #[va, vb] w (BothEnd w A B) := by
  obtain ⟨aa, na, ca, rfl, hna, hza, hca⟩ := ha.form
  obtain ⟨ab, nb, cb, rfl, hnb, hzb, hcb⟩ := hb.form
  obtain ⟨i0, hi, hz0, hz1, hz2⟩ := info_parts Try.infoInt
  obtain ⟨hcapb, bb, ob, rfl, hbb, hcellb⟩ := hcb (by omega)
  have hcapa := ha.cap
  have HA := Lib.hid ha
  have hsl : ∀ w', (Instr.slice 22 (.slice aa na ca) none (some (.int .i64 na)) (some (.int .i64 na))).run Try.prog w' = .ok (.slice aa na na) w' := slice_3I Try.underlying22 hi hz1 hcapa
  have HNA := Lib.hid hna
  have HNB := Lib.hid hnb
  have HZA := Lib.hid hza
  have hnew : Hid (∀ j u, (B.map (Value.int .i64))[j]? = some u → w.cell? ((⟨bb, ob, none⟩ : Addr).add j) = some u) := hb.news
  have hold : Hid (∀ b, aa = some b → ∀ j u, (A.map (Value.int .i64))[j]? = some u → w.cell? (b.add j) = some u) := fun b he => by subst he; exact HA.out.news
  have hfull : na < na + nb := by omega
  clear ha hb hza hca hzb hcb hcellb hnb hna
  go_enter Try.func45, Try.ntmps45
  go_wp2_with (first | (at_builtin; refine wpList_append_grows _ rfl (.tmp 10) (.tmp 11) 22 rfl 3 i0 (.int .i64 0) 1 8 Try.underlying22 hi hz0 hz1 hz2 rfl (by decide) aa na na (A.map (.int .i64)) rfl (fun h => ⟨(HZA.out h).1, (HZA.out h).1⟩) (by have := HNA.out; simp; omega) hold.out ⟨bb, ob, none⟩ nb cb (B.map (.int .i64)) rfl (by have := HNB.out; simp; omega) hnew.out (nums_one .i64 B) hfull (by unfold maxLen; have := HNA.out; have := HNB.out; omega) (by have := HNA.out; have := HNB.out; omega) ?_; intro v3 w3 own3 hg3; have OWN3 := Lib.hid own3; have HG3 := Lib.hid hg3; clear own3 hg3))
  go_ret
  have e := OWN3.out
  rw [show na + nb = (A ++ B).length by have := HNA.out; have := HNB.out; simp; omega, ← List.map_append] at e
  exact ⟨v3, rfl, own_reads e, fun ad n c h => e.lt ad.block (by rw [h]; rfl), Keeps.of_grown HG3.out (fun j h => by cases h)⟩

end Go.Proofs.Ythjbngnihcmedaa
