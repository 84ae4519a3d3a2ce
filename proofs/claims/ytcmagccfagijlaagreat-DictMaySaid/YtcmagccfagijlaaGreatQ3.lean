/-
  Walks over package canon: Check.
-/
import Derived.Test.YtcmagccfagijlaaGreatQ2
namespace Go.Proofs.YtcmagccfagijlaaGreat
set_option linter.unusedVariables false
set_option linter.unusedSimpArgs false
set_option linter.unusedSectionVars false
open Go.RowKit

set_option maxHeartbeats 600000 in
/-- The deferred function where an error was raised: the error is laid. -/
theorem ccaught_chk (pe : Nat) (n : Int) (z : Value) (te : TypeId) (older : List PanicEntry) (w : World) (he : Blk w pe #[z] te) :
    CallsD Tryz.prog 70 #[.pointer (some ⟨pe, 0, none⟩), .func (.func 71) #[] #[]] (.panicking (raisedBy n false :: older)) w fun e u' w' =>
      e = .returned (.tuple #[]) ∧ u' = .panicking (raisedBy n true :: older) ∧ w' = w.setCell ⟨pe, 0, none⟩ (.int .i64 n) := by
  obtain ⟨c0, f0⟩ := he.one
  have hta : ∀ w : World, (Instr.typeAssert (.iface 33 (.int .i64 n)) 20 33 true).run Tryz.prog w = .ok (.tuple #[.int .i64 n, .bool true]) w := fun _ => by kernel_rfl
  refine callsD_of_wpS Tryz.func70 rfl fun c₀ cs hu => ?_
  simp only [Tryz.ntmps70, List.size_toArray, List.length_cons, List.length_nil, Nat.reduceAdd, Nat.reduceSub, Array.replicate_succ, Array.replicate_zero, List.push_toArray, List.append_toArray, List.nil_append, List.cons_append]
  apply wpS_seq
  apply wpS_region
  simp [wpOpsS, go_sem, recoverD, hu, Exit.thenS, raisedBy]
  refine wpS_of_wp ?_
  have HU := Lib.hid hu
  clear hu
  go_wp2
  go_end0
  go_wp2
  refine ⟨rfl, .panicking (raisedBy n true :: older), ?_, .tuple #[], by simp [results, Tryz.results70], rfl, rfl, rfl⟩
  simp [raisedBy]

set_option maxRecDepth 100000 in
set_option maxHeartbeats 2000000 in
theorem ccheck_any (v : Value) (l : List Int) (w : World) (hv : RdI .i64 w v l) (hn : l.length ≤ 1000000) :
    Calls Tryz.prog 37 #[v] w fun e w' => e = .returned (.int .i64 (if treeL l then 0 else 12)) ∧ Keeps w w' [] := by
  cases ht : treeL l with
  | false =>
    have HO := Lib.hid (fun w' (k : Keeps w w' []) => cof_no v l w' (hv.keeps k) hn ht)
    obtain ⟨A0, n, cp0, rfl, hnl, -⟩ := hv.form
    clear hv hnl ht
    go_enter_defers Tryz.func37, Tryz.ntmps37
    go_wp2_with fail
    have k0 : Keeps w (w.alloc (.cells #[.int .i64 0] 33)) [] := (Keeps.refl w []).alloc _
    have be := Blk.new w #[.int .i64 0] 33
    refine (HO.out _ k0).mono ?_
    rintro e w1 ⟨rfl, k1⟩
    replace be := be.keeps k1 (by simp)
    replace k0 := k0.then k1
    clear k1
    obtain ⟨e0, e1⟩ := be.one
    go_wp2_with fail
    refine leaves_cons (f := 70) (args := #[.pointer (some ⟨w.heap.size, 0, none⟩), .func (.func 71) #[] #[]]) (by simp) (by simp [go_sem]) ?_
    refine (ccaught_chk _ 12 _ _ [] _ be).mono ?_
    rintro e u' w'' ⟨rfl, rfl, rfl⟩
    refine ⟨.int .i64 12, by simp only [results, Tryz.results37]; go_simp, ?_⟩
    refine ⟨rfl, ?_⟩
    exact Keeps.setCell' (.inl (by dsimp only; omega)) k0
  | true =>
    obtain ⟨A0, n, cp0, rfl, hnl, -⟩ := hv.form
    have HO := Lib.hid (fun w' (k : Keeps w w' []) => cof_yes A0 n cp0 l w' (hv.keeps k) hn ht)
    clear hv hnl ht
    go_enter_defers Tryz.func37, Tryz.ntmps37
    go_wp2_with fail
    have k0 : Keeps w (w.alloc (.cells #[.int .i64 0] 33)) [] := (Keeps.refl w []).alloc _
    have be := Blk.new w #[.int .i64 0] 33
    refine (HO.out _ k0).mono ?_
    rintro e w1 ⟨rfl, k1⟩
    replace be := be.keeps k1 (by simp)
    replace k0 := k0.then k1
    clear k1
    obtain ⟨e0, e1⟩ := be.one
    go_wp2_with fail
    refine leaves_cons (f := 70) (args := #[.pointer (some ⟨w.heap.size, 0, none⟩), .func (.func 71) #[] #[]]) (by simp) (by simp [go_sem]) ?_
    refine (ccaught_idle _ _ _).mono ?_
    rintro e u' w'' ⟨rfl, rfl, rfl⟩
    refine ⟨.int .i64 0, by simp only [results, Tryz.results37]; go_simp, ?_⟩
    refine ⟨rfl, ?_⟩
    exact Keeps.setCell' (.inl (by dsimp only; omega)) k0


end Go.Proofs.YtcmagccfagijlaaGreat
