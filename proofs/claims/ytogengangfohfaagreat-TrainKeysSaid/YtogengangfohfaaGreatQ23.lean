/-
  Walks over package train: Train where it fails.
-/
import Derived.Test.YtogengangfohfaaGreatQ22
import Derived.Laws.EntriesVeiled
namespace Go.Proofs.YtogengangfohfaaGreat
set_option linter.unusedVariables false
set_option linter.unusedSimpArgs false
set_option linter.unusedSectionVars false
open Go.RowKit

theorem tset {w : World} {b : Nat} {cs : Array Value} {T : TypeId} (h : Blk w b cs T) (i : Nat) (v : Value) (hv : cs.setIfInBounds i v = cs) : Blk (w.setCell ⟨b, i, none⟩ v) b cs T := by
  have := h.set i v
  rwa [hv] at this
theorem tone {w : World} {b : Nat} {x : Value} {T : TypeId} (h : Blk w b #[x] T) (v : Value) : Blk (w.setCell ⟨b, 0, none⟩ v) b #[v] T := by
  have := h.set 0 v
  simpa using this
abbrev zero12 : Array Value := #[.int .u32 0, .slice none 0 0, .int .i64 0, .slice none 0 0, .int .i64 0, .slice none 0 0, .int .i64 0, .slice none 0 0, .int .i64 0, .int .i64 0, .int .i64 0, .slice none 0 0]

set_option maxRecDepth 100000 in
set_option maxHeartbeats 4000000 in
/-- The deferred function where an error was raised: the result is cleared, the error is laid. -/
theorem tcaught_train (pe po : Nat) (n : Int) (z : Value) (te : TypeId) (older : List PanicEntry) (w : World) (he : Blk w pe #[z] te) (ho : Blk w po zero12 56) (h1 : pe ≠ po) :
    CallsD Tryz.prog 42 #[.pointer (some ⟨pe, 0, none⟩), .func (.func 54) #[] #[.pointer (some ⟨po, 0, none⟩)]] (.panicking (raisedBy n false :: older)) w fun e u' w' =>
      e = .returned (.tuple #[]) ∧ u' = .panicking (raisedBy n true :: older) ∧ Blk w' po zero12 56 ∧ Blk w' pe #[.int .i64 n] te ∧ Keeps w w' [po, pe] := by
  obtain ⟨c0, f0⟩ := he.one
  have z0 : w.cell? ⟨po, 0, none⟩ = some (.int .u32 0) := ho.cell 0
  have z1 : w.cell? ⟨po, 1, none⟩ = some (.slice none 0 0) := ho.cell 1
  have z2 : w.cell? ⟨po, 2, none⟩ = some (.int .i64 0) := ho.cell 2
  have z3 : w.cell? ⟨po, 3, none⟩ = some (.slice none 0 0) := ho.cell 3
  have z4 : w.cell? ⟨po, 4, none⟩ = some (.int .i64 0) := ho.cell 4
  have z5 : w.cell? ⟨po, 5, none⟩ = some (.slice none 0 0) := ho.cell 5
  have z6 : w.cell? ⟨po, 6, none⟩ = some (.int .i64 0) := ho.cell 6
  have z7 : w.cell? ⟨po, 7, none⟩ = some (.slice none 0 0) := ho.cell 7
  have z8 : w.cell? ⟨po, 8, none⟩ = some (.int .i64 0) := ho.cell 8
  have z9 : w.cell? ⟨po, 9, none⟩ = some (.int .i64 0) := ho.cell 9
  have za : w.cell? ⟨po, 10, none⟩ = some (.int .i64 0) := ho.cell 10
  have zb : w.cell? ⟨po, 11, none⟩ = some (.slice none 0 0) := ho.cell 11
  have y : ∀ i, w.frozen? ⟨po, i, none⟩ = false := fun i => ho.frozen i
  have HO := Lib.hid ho
  have HE := Lib.hid he
  have hta : ∀ w : World, (Instr.typeAssert (.iface 34 (.int .i64 n)) 20 34 true).run Tryz.prog w = .ok (.tuple #[.int .i64 n, .bool true]) w := fun _ => by kernel_rfl
  have h1' := h1.symm
  clear ho he
  refine callsD_of_wpS Tryz.func42 rfl fun c₀ cs hu => ?_
  simp only [Tryz.ntmps42, List.size_toArray, List.length_cons, List.length_nil, Nat.reduceAdd, Nat.reduceSub, Array.replicate_succ, Array.replicate_zero, List.push_toArray, List.append_toArray, List.nil_append, List.cons_append]
  apply wpS_seq
  apply wpS_region
  simp [wpOpsS, go_sem, recoverD, hu, Exit.thenS, raisedBy]
  refine wpS_of_wp ?_
  have HU := Lib.hid hu
  clear hu
  go_wp2
  go_end0
  go_wp2
  have k0 : Keeps w w [po, pe] := Keeps.refl w _
  have b := HO.out
  have d := HE.out
  replace k0 := k0.setCell (a := ⟨po, 0, none⟩) (.inr (by simp)) (.int .u32 0)
  replace d := d.setOther (a := ⟨po, 0, none⟩) (by dsimp only; exact h1') (.int .u32 0)
  replace b := tset b 0 (.int .u32 0) (by rfl)
  replace k0 := k0.setCell (a := ⟨po, 1, none⟩) (.inr (by simp)) (.slice none 0 0)
  replace d := d.setOther (a := ⟨po, 1, none⟩) (by dsimp only; exact h1') (.slice none 0 0)
  replace b := tset b 1 (.slice none 0 0) (by rfl)
  replace k0 := k0.setCell (a := ⟨po, 2, none⟩) (.inr (by simp)) (.int .i64 0)
  replace d := d.setOther (a := ⟨po, 2, none⟩) (by dsimp only; exact h1') (.int .i64 0)
  replace b := tset b 2 (.int .i64 0) (by rfl)
  replace k0 := k0.setCell (a := ⟨po, 3, none⟩) (.inr (by simp)) (.slice none 0 0)
  replace d := d.setOther (a := ⟨po, 3, none⟩) (by dsimp only; exact h1') (.slice none 0 0)
  replace b := tset b 3 (.slice none 0 0) (by rfl)
  replace k0 := k0.setCell (a := ⟨po, 4, none⟩) (.inr (by simp)) (.int .i64 0)
  replace d := d.setOther (a := ⟨po, 4, none⟩) (by dsimp only; exact h1') (.int .i64 0)
  replace b := tset b 4 (.int .i64 0) (by rfl)
  replace k0 := k0.setCell (a := ⟨po, 5, none⟩) (.inr (by simp)) (.slice none 0 0)
  replace d := d.setOther (a := ⟨po, 5, none⟩) (by dsimp only; exact h1') (.slice none 0 0)
  replace b := tset b 5 (.slice none 0 0) (by rfl)
  replace k0 := k0.setCell (a := ⟨po, 6, none⟩) (.inr (by simp)) (.int .i64 0)
  replace d := d.setOther (a := ⟨po, 6, none⟩) (by dsimp only; exact h1') (.int .i64 0)
  replace b := tset b 6 (.int .i64 0) (by rfl)
  replace k0 := k0.setCell (a := ⟨po, 7, none⟩) (.inr (by simp)) (.slice none 0 0)
  replace d := d.setOther (a := ⟨po, 7, none⟩) (by dsimp only; exact h1') (.slice none 0 0)
  replace b := tset b 7 (.slice none 0 0) (by rfl)
  replace k0 := k0.setCell (a := ⟨po, 8, none⟩) (.inr (by simp)) (.int .i64 0)
  replace d := d.setOther (a := ⟨po, 8, none⟩) (by dsimp only; exact h1') (.int .i64 0)
  replace b := tset b 8 (.int .i64 0) (by rfl)
  replace k0 := k0.setCell (a := ⟨po, 9, none⟩) (.inr (by simp)) (.int .i64 0)
  replace d := d.setOther (a := ⟨po, 9, none⟩) (by dsimp only; exact h1') (.int .i64 0)
  replace b := tset b 9 (.int .i64 0) (by rfl)
  replace k0 := k0.setCell (a := ⟨po, 10, none⟩) (.inr (by simp)) (.int .i64 0)
  replace d := d.setOther (a := ⟨po, 10, none⟩) (by dsimp only; exact h1') (.int .i64 0)
  replace b := tset b 10 (.int .i64 0) (by rfl)
  replace k0 := k0.setCell (a := ⟨po, 11, none⟩) (.inr (by simp)) (.slice none 0 0)
  replace d := d.setOther (a := ⟨po, 11, none⟩) (by dsimp only; exact h1') (.slice none 0 0)
  replace b := tset b 11 (.slice none 0 0) (by rfl)
  replace k0 := k0.setCell (a := ⟨pe, 0, none⟩) (.inr (by simp)) (.int .i64 n)
  replace b := b.setOther (a := ⟨pe, 0, none⟩) (by dsimp only; exact h1) (.int .i64 n)
  have d2 := tone d (.int .i64 n)
  refine ⟨rfl, .panicking (raisedBy n true :: older), ?_, .tuple #[], by simp [results, Tryz.results42], rfl, rfl, b, d2, k0⟩
  simp [raisedBy]

/-- How Train ends where it fails. -/
def TrEnd (w : World) (n : Int) (e : Ending) (w' : World) : Prop := e = .returned (.tuple #[.agg zero12, .int .i64 n]) ∧ Keeps w w' []

set_option maxRecDepth 100000 in
set_option maxHeartbeats 4000000 in
theorem train_short (v : Value) (l : List (List Int)) (size : Nat) (w : World) (hv : RdL .u8 w v l) (hb : ∀ b ∈ l, ∀ x ∈ b, 0 ≤ x ∧ x ≤ 255) (hm : mayL l) (h8 : 8 ≤ size) (h9 : size ≤ 134217728) (hsh : ∀ out, Greedy (cntL l) (piecesL l) size [] [] out → out.length < 8) :
    Calls Tryz.prog 21 #[v, .int .i64 (size : Int)] w (TrEnd w 22) := by
  have hmf : ∀ (fn : Fn) (first cap : Array Value) (w : World), (Instr.makeFunc fn first cap).run Tryz.prog w = .ok (.func fn first cap) w := fun _ _ _ _ => rfl
  have k0 : Keeps w ((w.alloc (.cells zero12 56)).alloc (.cells #[.int .i64 0] 34)) [] := ((Keeps.refl w []).alloc _).alloc _
  have bo := (Blk.new w zero12 56).alloc (.cells #[.int .i64 0] 34)
  have be := Blk.new (w.alloc (.cells zero12 56)) #[.int .i64 0] 34
  simp only [World.size_alloc] at be
  have HC := Lib.hid (cont_ok v l size _ (hv.keeps k0) hb hm h8 h9)
  obtain ⟨A1, n1, cp1, rfl, -, -⟩ := hv.form
  have HSH := Lib.hid hsh
  clear hv hb hm hsh
  go_enter_defers Tryz.func21, Tryz.ntmps21
  go_wp2_with fail
  generalize ((w.alloc (.cells zero12 56)).alloc (.cells #[.int .i64 0] 34)) = W0 at *
  refine HC.out.mono ?_
  rintro e w1 ⟨cv, out, rfl, rd, gr, k1⟩
  have hlen := HSH.out out gr
  obtain ⟨ca, cn, cc, rfl, hcn, -⟩ := rd.form
  replace bo := bo.keeps k1 (by simp)
  replace be := be.keeps k1 (by simp)
  replace k0 := k0.then k1
  have hc8 : decide ((8 : Int) ≤ (cn : Int)) = false := decide_eq_false (by omega)
  clear k1 HC rd gr hlen hcn
  have bm := Blk.new w1 #[.int .i64 0] 34
  have k2 : Keeps w1 (w1.alloc (.cells #[.int .i64 0] 34)) [] := (Keeps.refl w1 []).alloc _
  replace bo := bo.keeps k2 (by simp)
  replace be := be.keeps k2 (by simp)
  replace k0 := k0.then k2
  go_wp2_with (first
    | (go_at_call 55; refine (tmust_yes _ _ bm).mono ?_; rintro e w2 ⟨rfl, rfl⟩)
    | (go_at_call 50; refine (tis_no rfl _ _).mono ?_; rintro e w2 ⟨rfl, rfl⟩))
  refine leaves_cons (f := 42) (args := #[.pointer (some ⟨w.heap.size + 1, 0, none⟩), .func (.func 54) #[] #[.pointer (some ⟨w.heap.size, 0, none⟩)]]) (by simp) (by simp [go_sem]) ?_
  refine (tcaught_train _ _ 22 _ _ [] _ be bo (by omega)).mono ?_
  rintro e u' w'' ⟨rfl, rfl, bo9, be9, k9⟩
  have z0 : w''.cell? ⟨w.heap.size, 0, none⟩ = some (.int .u32 0) := bo9.cell 0
  have z1 : w''.cell? ⟨w.heap.size, 1, none⟩ = some (.slice none 0 0) := bo9.cell 1
  have z2 : w''.cell? ⟨w.heap.size, 2, none⟩ = some (.int .i64 0) := bo9.cell 2
  have z3 : w''.cell? ⟨w.heap.size, 3, none⟩ = some (.slice none 0 0) := bo9.cell 3
  have z4 : w''.cell? ⟨w.heap.size, 4, none⟩ = some (.int .i64 0) := bo9.cell 4
  have z5 : w''.cell? ⟨w.heap.size, 5, none⟩ = some (.slice none 0 0) := bo9.cell 5
  have z6 : w''.cell? ⟨w.heap.size, 6, none⟩ = some (.int .i64 0) := bo9.cell 6
  have z7 : w''.cell? ⟨w.heap.size, 7, none⟩ = some (.slice none 0 0) := bo9.cell 7
  have z8 : w''.cell? ⟨w.heap.size, 8, none⟩ = some (.int .i64 0) := bo9.cell 8
  have z9 : w''.cell? ⟨w.heap.size, 9, none⟩ = some (.int .i64 0) := bo9.cell 9
  have za : w''.cell? ⟨w.heap.size, 10, none⟩ = some (.int .i64 0) := bo9.cell 10
  have zb : w''.cell? ⟨w.heap.size, 11, none⟩ = some (.slice none 0 0) := bo9.cell 11
  have y0 := be9.cell 0
  refine ⟨.tuple #[.agg zero12, .int .i64 22], by simp only [results, Tryz.results21]; go_simp, rfl, k0.trans k9 (fun j hj hlt => by simp at hj; omega)⟩

set_option maxRecDepth 100000 in
set_option maxHeartbeats 4000000 in
theorem train_bad (v : Value) (l : List (List Int)) (size : Int) (w : World) (hv : RdL .u8 w v l) (hll : l.length ≤ 1000000000) (hbad : ¬ (mayL l ∧ 8 ≤ size ∧ size ≤ 134217728)) :
    Calls Tryz.prog 21 #[v, .int .i64 size] w (TrEnd w 2) := by
  have hmf : ∀ (fn : Fn) (first cap : Array Value) (w : World), (Instr.makeFunc fn first cap).run Tryz.prog w = .ok (.func fn first cap) w := fun _ _ _ _ => rfl
  have k0 : Keeps w ((w.alloc (.cells zero12 56)).alloc (.cells #[.int .i64 0] 34)) [] := ((Keeps.refl w []).alloc _).alloc _
  have bo := (Blk.new w zero12 56).alloc (.cells #[.int .i64 0] 34)
  have be := Blk.new (w.alloc (.cells zero12 56)) #[.int .i64 0] 34
  simp only [World.size_alloc] at be
  have HC := Lib.hid (cont_bad v l size _ (hv.keeps k0) hll hbad)
  obtain ⟨A1, n1, cp1, rfl, -, -⟩ := hv.form
  clear hv hbad
  go_enter_defers Tryz.func21, Tryz.ntmps21
  go_wp2_with fail
  generalize ((w.alloc (.cells zero12 56)).alloc (.cells #[.int .i64 0] 34)) = W0 at *
  refine HC.out.mono ?_
  rintro e w1 ⟨rfl, k1⟩
  replace bo := bo.keeps k1 (by simp)
  replace be := be.keeps k1 (by simp)
  replace k0 := k0.then k1
  clear k1 HC
  have bm := Blk.new w1 #[.int .i64 2] 34
  have k2 : Keeps w1 (w1.alloc (.cells #[.int .i64 2] 34)) [] := (Keeps.refl w1 []).alloc _
  replace bo := bo.keeps k2 (by simp)
  replace be := be.keeps k2 (by simp)
  replace k0 := k0.then k2
  go_wp2_with (go_at_call 55; refine (tmust_no 2 (by decide) _ _ bm).mono ?_; rintro e w2 ⟨rfl, rfl⟩)
  refine leaves_cons (f := 42) (args := #[.pointer (some ⟨w.heap.size + 1, 0, none⟩), .func (.func 54) #[] #[.pointer (some ⟨w.heap.size, 0, none⟩)]]) (by simp) (by simp [go_sem]) ?_
  refine (tcaught_train _ _ 2 _ _ [] _ be bo (by omega)).mono ?_
  rintro e u' w'' ⟨rfl, rfl, bo9, be9, k9⟩
  have z0 : w''.cell? ⟨w.heap.size, 0, none⟩ = some (.int .u32 0) := bo9.cell 0
  have z1 : w''.cell? ⟨w.heap.size, 1, none⟩ = some (.slice none 0 0) := bo9.cell 1
  have z2 : w''.cell? ⟨w.heap.size, 2, none⟩ = some (.int .i64 0) := bo9.cell 2
  have z3 : w''.cell? ⟨w.heap.size, 3, none⟩ = some (.slice none 0 0) := bo9.cell 3
  have z4 : w''.cell? ⟨w.heap.size, 4, none⟩ = some (.int .i64 0) := bo9.cell 4
  have z5 : w''.cell? ⟨w.heap.size, 5, none⟩ = some (.slice none 0 0) := bo9.cell 5
  have z6 : w''.cell? ⟨w.heap.size, 6, none⟩ = some (.int .i64 0) := bo9.cell 6
  have z7 : w''.cell? ⟨w.heap.size, 7, none⟩ = some (.slice none 0 0) := bo9.cell 7
  have z8 : w''.cell? ⟨w.heap.size, 8, none⟩ = some (.int .i64 0) := bo9.cell 8
  have z9 : w''.cell? ⟨w.heap.size, 9, none⟩ = some (.int .i64 0) := bo9.cell 9
  have za : w''.cell? ⟨w.heap.size, 10, none⟩ = some (.int .i64 0) := bo9.cell 10
  have zb : w''.cell? ⟨w.heap.size, 11, none⟩ = some (.slice none 0 0) := bo9.cell 11
  have y0 := be9.cell 0
  refine ⟨.tuple #[.agg zero12, .int .i64 2], by simp only [results, Tryz.results21]; go_simp, rfl, k0.trans k9 (fun j hj hlt => by simp at hj; omega)⟩


end Go.Proofs.YtogengangfohfaaGreat
