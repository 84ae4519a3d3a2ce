/-
  Walks over package dict: the deferred function of Get.
-/
import Derived.Test.YtcmagccfagijlaaGreatQ16
namespace Go.Proofs.YtcmagccfagijlaaGreat
set_option linter.unusedVariables false
set_option linter.unusedSimpArgs false
set_option linter.unusedSectionVars false
open Go.RowKit

theorem zset {w : World} {b : Nat} {cs : Array Value} {T : TypeId} (h : Blk w b cs T) (i : Nat) (v : Value) (hv : cs.setIfInBounds i v = cs) : Blk (w.setCell ⟨b, i, none⟩ v) b cs T := by
  have := h.set i v
  rwa [hv] at this
theorem zone {w : World} {b : Nat} {x : Value} {T : TypeId} (h : Blk w b #[x] T) (v : Value) : Blk (w.setCell ⟨b, 0, none⟩ v) b #[v] T := by
  have := h.set 0 v
  simpa using this

set_option maxRecDepth 100000 in
set_option maxHeartbeats 4000000 in
/-- The deferred function of Get where an error was raised: the results are laid. -/
theorem dget_back (pd pe : Nat) (n : Int) (z : Value) (older : List PanicEntry) (w : World) (hd : Blk w pd zeroC 32) (he : Blk w pe #[z] 33) (hne : pd ≠ pe) :
    CallsD Tryz.prog 47 #[.pointer (some ⟨pd, 0, none⟩), .pointer (some ⟨pe, 0, none⟩)] (.panicking (raisedBy n false :: older)) w fun e u' w' =>
      e = .returned (.tuple #[]) ∧ u' = .panicking (raisedBy n true :: older) ∧ Blk w' pd zeroC 32 ∧ Blk w' pe #[.int .i64 n] 33 ∧ Keeps w w' [pd, pe] := by
  obtain ⟨c0, f0⟩ := he.one
  have hta : ∀ w : World, (Instr.typeAssert (.iface 33 (.int .i64 n)) 20 33 false).run Tryz.prog w = .ok (.int .i64 n) w := fun _ => by kernel_rfl
  have hne' := hne.symm
  refine callsD_of_wpS Tryz.func47 rfl fun c₀ cs hu => ?_
  simp only [Tryz.ntmps47, List.size_toArray, List.length_cons, List.length_nil, Nat.reduceAdd, Nat.reduceSub, Array.replicate_succ, Array.replicate_zero, List.push_toArray, List.append_toArray, List.nil_append, List.cons_append]
  apply wpS_seq
  apply wpS_region
  simp [wpOpsS, go_sem, recoverD, hu, Exit.thenS, raisedBy]
  refine wpS_of_wp ?_
  have HU := Lib.hid hu
  clear hu
  have z0 : w.cell? ⟨pd, 0, none⟩ = some (.int .u32 0) := hd.cell 0
  have z1 : w.cell? ⟨pd, 1, none⟩ = some nilV := hd.cell 1
  have z2 : w.cell? ⟨pd, 2, none⟩ = some (.int .i64 0) := hd.cell 2
  have z3 : w.cell? ⟨pd, 3, none⟩ = some nilV := hd.cell 3
  have z4 : w.cell? ⟨pd, 4, none⟩ = some (.int .i64 0) := hd.cell 4
  have z5 : w.cell? ⟨pd, 5, none⟩ = some nilV := hd.cell 5
  have z6 : w.cell? ⟨pd, 6, none⟩ = some (.int .i64 0) := hd.cell 6
  have z7 : w.cell? ⟨pd, 7, none⟩ = some nilV := hd.cell 7
  have z8 : w.cell? ⟨pd, 8, none⟩ = some (.int .i64 0) := hd.cell 8
  have z9 : w.cell? ⟨pd, 9, none⟩ = some (.int .i64 0) := hd.cell 9
  have za : w.cell? ⟨pd, 10, none⟩ = some (.int .i64 0) := hd.cell 10
  have zb : w.cell? ⟨pd, 11, none⟩ = some nilV := hd.cell 11
  have y : ∀ i, w.frozen? ⟨pd, i, none⟩ = false := fun i => hd.frozen i
  have HD := Lib.hid hd
  have HE := Lib.hid he
  clear hd he
  go_wp2_with fail
  go_region
  have k0 : Keeps w w [pd, pe] := Keeps.refl w _
  have b := HD.out
  have d := HE.out
  replace k0 := k0.setCell (a := ⟨pd, 0, none⟩) (.inr (by simp)) (.int .u32 0)
  replace d := d.setOther (a := ⟨pd, 0, none⟩) (by dsimp only; exact hne) (.int .u32 0)
  replace b := zset b 0 (.int .u32 0) (by rfl)
  replace k0 := k0.setCell (a := ⟨pd, 1, none⟩) (.inr (by simp)) (nilV)
  replace d := d.setOther (a := ⟨pd, 1, none⟩) (by dsimp only; exact hne) (nilV)
  replace b := zset b 1 (nilV) (by rfl)
  replace k0 := k0.setCell (a := ⟨pd, 2, none⟩) (.inr (by simp)) (.int .i64 0)
  replace d := d.setOther (a := ⟨pd, 2, none⟩) (by dsimp only; exact hne) (.int .i64 0)
  replace b := zset b 2 (.int .i64 0) (by rfl)
  replace k0 := k0.setCell (a := ⟨pd, 3, none⟩) (.inr (by simp)) (nilV)
  replace d := d.setOther (a := ⟨pd, 3, none⟩) (by dsimp only; exact hne) (nilV)
  replace b := zset b 3 (nilV) (by rfl)
  replace k0 := k0.setCell (a := ⟨pd, 4, none⟩) (.inr (by simp)) (.int .i64 0)
  replace d := d.setOther (a := ⟨pd, 4, none⟩) (by dsimp only; exact hne) (.int .i64 0)
  replace b := zset b 4 (.int .i64 0) (by rfl)
  replace k0 := k0.setCell (a := ⟨pd, 5, none⟩) (.inr (by simp)) (nilV)
  replace d := d.setOther (a := ⟨pd, 5, none⟩) (by dsimp only; exact hne) (nilV)
  replace b := zset b 5 (nilV) (by rfl)
  replace k0 := k0.setCell (a := ⟨pd, 6, none⟩) (.inr (by simp)) (.int .i64 0)
  replace d := d.setOther (a := ⟨pd, 6, none⟩) (by dsimp only; exact hne) (.int .i64 0)
  replace b := zset b 6 (.int .i64 0) (by rfl)
  replace k0 := k0.setCell (a := ⟨pd, 7, none⟩) (.inr (by simp)) (nilV)
  replace d := d.setOther (a := ⟨pd, 7, none⟩) (by dsimp only; exact hne) (nilV)
  replace b := zset b 7 (nilV) (by rfl)
  replace k0 := k0.setCell (a := ⟨pd, 8, none⟩) (.inr (by simp)) (.int .i64 0)
  replace d := d.setOther (a := ⟨pd, 8, none⟩) (by dsimp only; exact hne) (.int .i64 0)
  replace b := zset b 8 (.int .i64 0) (by rfl)
  replace k0 := k0.setCell (a := ⟨pd, 9, none⟩) (.inr (by simp)) (.int .i64 0)
  replace d := d.setOther (a := ⟨pd, 9, none⟩) (by dsimp only; exact hne) (.int .i64 0)
  replace b := zset b 9 (.int .i64 0) (by rfl)
  replace k0 := k0.setCell (a := ⟨pd, 10, none⟩) (.inr (by simp)) (.int .i64 0)
  replace d := d.setOther (a := ⟨pd, 10, none⟩) (by dsimp only; exact hne) (.int .i64 0)
  replace b := zset b 10 (.int .i64 0) (by rfl)
  replace k0 := k0.setCell (a := ⟨pd, 11, none⟩) (.inr (by simp)) (nilV)
  replace d := d.setOther (a := ⟨pd, 11, none⟩) (by dsimp only; exact hne) (nilV)
  replace b := zset b 11 (nilV) (by rfl)
  replace k0 := (k0.setCell (a := ⟨pe, 0, none⟩) (.inr (by simp)) (.int .i64 n)).drew
  replace b := (b.setOther (a := ⟨pe, 0, none⟩) (by dsimp only; exact hne') (.int .i64 n)).drew
  have d2 := zone d (.int .i64 n)
  replace d := d2.drew
  refine ⟨rfl, .panicking (raisedBy n true :: older), ?_, .tuple #[], by simp [results, Tryz.results47], rfl, rfl, b, d, k0⟩
  simp [raisedBy]


end Go.Proofs.YtcmagccfagijlaaGreat
