/-
  Walks over package repeat: the deferred function.
-/
import Derived.Test.YtldbiohahkcpnaaW4
namespace Go.Proofs.Ytldbiohahkcpnaa
set_option linter.unusedVariables false
set_option linter.unusedSimpArgs false
set_option linter.unusedSectionVars false
open Go.RowKit

/-- The deferred function of a call that returns: it does nothing. -/
theorem caught_idle (p : Addr) (f : Value) (w : World) :
    CallsD Try.prog 26 #[.pointer (some p), f] .returning w fun e u' w' => e = .returned (.tuple #[]) ∧ u' = .returning ∧ w' = w := by
  refine callsD_of_wpS Try.func26 rfl fun c₀ cs hu => ?_
  simp only [Try.ntmps26, List.size_toArray, List.length_cons, List.length_nil, Nat.reduceAdd, Nat.reduceSub, Array.replicate_succ, Array.replicate_zero, List.push_toArray, List.append_toArray, List.nil_append, List.cons_append]
  apply wpS_seq
  apply wpS_region
  simp [wpOpsS, go_sem, recoverD, hu, Exit.thenS]
  refine wpS_of_wp ?_
  have HU := Lib.hid hu
  clear hu
  go_wp2
  refine ⟨rfl, .returning, ?_, .tuple #[], by simp [results, Try.results26], rfl, rfl, rfl⟩
  have hu := HU.out
  cases c₀
  simp_all


set_option maxHeartbeats 600000 in
/-- The deferred function where an error was raised: the results are cleared, the error is laid. -/
theorem caught_offset (pe po pt : Nat) (n : Int) (x y0 y1 y2 z : Value) (te to tt : TypeId) (older : List PanicEntry) (w : World) (he : Blk w pe #[z] te) (ho : Blk w po #[x] to) (ht : Blk w pt #[y0, y1, y2] tt) (h1 : pe ≠ po) (h2 : pe ≠ pt) (h3 : po ≠ pt) :
    CallsD Try.prog 26 #[.pointer (some ⟨pe, 0, none⟩), .func (.func 27) #[] #[.pointer (some ⟨po, 0, none⟩), .pointer (some ⟨pt, 0, none⟩)]] (.panicking (raisedBy n false :: older)) w fun e u' w' =>
      e = .returned (.tuple #[]) ∧ u' = .panicking (raisedBy n true :: older) ∧ w' = ((((w.setCell ⟨po, 0, none⟩ (.int .i64 0)).setCell ⟨pt, 0, none⟩ (.int .i64 0)).setCell ⟨pt, 1, none⟩ (.int .i64 0)).setCell ⟨pt, 2, none⟩ (.int .i64 0)).setCell ⟨pe, 0, none⟩ (.int .i64 n) := by
  obtain ⟨c0, f0⟩ := he.one
  obtain ⟨c1, f1⟩ := ho.one
  obtain ⟨c2, c3, c4, f2, f3, f4⟩ := ht.three
  have hta : ∀ w : World, (Instr.typeAssert (.iface 25 (.int .i64 n)) 20 25 true).run Try.prog w = .ok (.tuple #[.int .i64 n, .bool true]) w := fun _ => by kernel_rfl
  have h1' := h1.symm
  have h2' := h2.symm
  have h3' := h3.symm
  refine callsD_of_wpS Try.func26 rfl fun c₀ cs hu => ?_
  simp only [Try.ntmps26, List.size_toArray, List.length_cons, List.length_nil, Nat.reduceAdd, Nat.reduceSub, Array.replicate_succ, Array.replicate_zero, List.push_toArray, List.append_toArray, List.nil_append, List.cons_append]
  apply wpS_seq
  apply wpS_region
  simp [wpOpsS, go_sem, recoverD, hu, Exit.thenS, raisedBy]
  refine wpS_of_wp ?_
  have HU := Lib.hid hu
  clear hu
  go_wp2
  go_end0
  go_wp2
  refine ⟨rfl, .panicking (raisedBy n true :: older), ?_, .tuple #[], by simp [results, Try.results26], rfl, rfl, rfl⟩
  simp [raisedBy]

set_option maxHeartbeats 600000 in
/-- The deferred function where an error was raised: the results are cleared, the error is laid. -/
theorem caught_value (pe po pt : Nat) (n : Int) (x y0 y1 y2 z : Value) (te to tt : TypeId) (older : List PanicEntry) (w : World) (he : Blk w pe #[z] te) (ho : Blk w po #[x] to) (ht : Blk w pt #[y0, y1, y2] tt) (h1 : pe ≠ po) (h2 : pe ≠ pt) (h3 : po ≠ pt) :
    CallsD Try.prog 26 #[.pointer (some ⟨pe, 0, none⟩), .func (.func 33) #[] #[.pointer (some ⟨po, 0, none⟩), .pointer (some ⟨pt, 0, none⟩)]] (.panicking (raisedBy n false :: older)) w fun e u' w' =>
      e = .returned (.tuple #[]) ∧ u' = .panicking (raisedBy n true :: older) ∧ w' = ((((w.setCell ⟨po, 0, none⟩ (.int .i64 0)).setCell ⟨pt, 0, none⟩ (.int .i64 0)).setCell ⟨pt, 1, none⟩ (.int .i64 0)).setCell ⟨pt, 2, none⟩ (.int .i64 0)).setCell ⟨pe, 0, none⟩ (.int .i64 n) := by
  obtain ⟨c0, f0⟩ := he.one
  obtain ⟨c1, f1⟩ := ho.one
  obtain ⟨c2, c3, c4, f2, f3, f4⟩ := ht.three
  have hta : ∀ w : World, (Instr.typeAssert (.iface 25 (.int .i64 n)) 20 25 true).run Try.prog w = .ok (.tuple #[.int .i64 n, .bool true]) w := fun _ => by kernel_rfl
  have h1' := h1.symm
  have h2' := h2.symm
  have h3' := h3.symm
  refine callsD_of_wpS Try.func26 rfl fun c₀ cs hu => ?_
  simp only [Try.ntmps26, List.size_toArray, List.length_cons, List.length_nil, Nat.reduceAdd, Nat.reduceSub, Array.replicate_succ, Array.replicate_zero, List.push_toArray, List.append_toArray, List.nil_append, List.cons_append]
  apply wpS_seq
  apply wpS_region
  simp [wpOpsS, go_sem, recoverD, hu, Exit.thenS, raisedBy]
  refine wpS_of_wp ?_
  have HU := Lib.hid hu
  clear hu
  go_wp2
  go_end0
  go_wp2
  refine ⟨rfl, .panicking (raisedBy n true :: older), ?_, .tuple #[], by simp [results, Try.results26], rfl, rfl, rfl⟩
  simp [raisedBy]

set_option maxHeartbeats 600000 in
/-- The deferred function where an error was raised: the results are cleared, the error is laid. -/
theorem caught_offsets (pe po pt : Nat) (n : Int) (x y0 y1 y2 z : Value) (te to tt : TypeId) (older : List PanicEntry) (w : World) (he : Blk w pe #[z] te) (ho : Blk w po #[x] to) (ht : Blk w pt #[y0, y1, y2] tt) (h1 : pe ≠ po) (h2 : pe ≠ pt) (h3 : po ≠ pt) :
    CallsD Try.prog 26 #[.pointer (some ⟨pe, 0, none⟩), .func (.func 35) #[] #[.pointer (some ⟨po, 0, none⟩), .pointer (some ⟨pt, 0, none⟩)]] (.panicking (raisedBy n false :: older)) w fun e u' w' =>
      e = .returned (.tuple #[]) ∧ u' = .panicking (raisedBy n true :: older) ∧ w' = ((((w.setCell ⟨po, 0, none⟩ (.slice none 0 0)).setCell ⟨pt, 0, none⟩ (.int .i64 0)).setCell ⟨pt, 1, none⟩ (.int .i64 0)).setCell ⟨pt, 2, none⟩ (.int .i64 0)).setCell ⟨pe, 0, none⟩ (.int .i64 n) := by
  obtain ⟨c0, f0⟩ := he.one
  obtain ⟨c1, f1⟩ := ho.one
  obtain ⟨c2, c3, c4, f2, f3, f4⟩ := ht.three
  have hta : ∀ w : World, (Instr.typeAssert (.iface 25 (.int .i64 n)) 20 25 true).run Try.prog w = .ok (.tuple #[.int .i64 n, .bool true]) w := fun _ => by kernel_rfl
  have h1' := h1.symm
  have h2' := h2.symm
  have h3' := h3.symm
  refine callsD_of_wpS Try.func26 rfl fun c₀ cs hu => ?_
  simp only [Try.ntmps26, List.size_toArray, List.length_cons, List.length_nil, Nat.reduceAdd, Nat.reduceSub, Array.replicate_succ, Array.replicate_zero, List.push_toArray, List.append_toArray, List.nil_append, List.cons_append]
  apply wpS_seq
  apply wpS_region
  simp [wpOpsS, go_sem, recoverD, hu, Exit.thenS, raisedBy]
  refine wpS_of_wp ?_
  have HU := Lib.hid hu
  clear hu
  go_wp2
  go_end0
  go_wp2
  refine ⟨rfl, .panicking (raisedBy n true :: older), ?_, .tuple #[], by simp [results, Try.results26], rfl, rfl, rfl⟩
  simp [raisedBy]

set_option maxHeartbeats 600000 in
/-- The deferred function where an error was raised: the results are cleared, the error is laid. -/
theorem caught_values (pe po pt : Nat) (n : Int) (x y0 y1 y2 z : Value) (te to tt : TypeId) (older : List PanicEntry) (w : World) (he : Blk w pe #[z] te) (ho : Blk w po #[x] to) (ht : Blk w pt #[y0, y1, y2] tt) (h1 : pe ≠ po) (h2 : pe ≠ pt) (h3 : po ≠ pt) :
    CallsD Try.prog 26 #[.pointer (some ⟨pe, 0, none⟩), .func (.func 39) #[] #[.pointer (some ⟨po, 0, none⟩), .pointer (some ⟨pt, 0, none⟩)]] (.panicking (raisedBy n false :: older)) w fun e u' w' =>
      e = .returned (.tuple #[]) ∧ u' = .panicking (raisedBy n true :: older) ∧ w' = ((((w.setCell ⟨po, 0, none⟩ (.slice none 0 0)).setCell ⟨pt, 0, none⟩ (.int .i64 0)).setCell ⟨pt, 1, none⟩ (.int .i64 0)).setCell ⟨pt, 2, none⟩ (.int .i64 0)).setCell ⟨pe, 0, none⟩ (.int .i64 n) := by
  obtain ⟨c0, f0⟩ := he.one
  obtain ⟨c1, f1⟩ := ho.one
  obtain ⟨c2, c3, c4, f2, f3, f4⟩ := ht.three
  have hta : ∀ w : World, (Instr.typeAssert (.iface 25 (.int .i64 n)) 20 25 true).run Try.prog w = .ok (.tuple #[.int .i64 n, .bool true]) w := fun _ => by kernel_rfl
  have h1' := h1.symm
  have h2' := h2.symm
  have h3' := h3.symm
  refine callsD_of_wpS Try.func26 rfl fun c₀ cs hu => ?_
  simp only [Try.ntmps26, List.size_toArray, List.length_cons, List.length_nil, Nat.reduceAdd, Nat.reduceSub, Array.replicate_succ, Array.replicate_zero, List.push_toArray, List.append_toArray, List.nil_append, List.cons_append]
  apply wpS_seq
  apply wpS_region
  simp [wpOpsS, go_sem, recoverD, hu, Exit.thenS, raisedBy]
  refine wpS_of_wp ?_
  have HU := Lib.hid hu
  clear hu
  go_wp2
  go_end0
  go_wp2
  refine ⟨rfl, .panicking (raisedBy n true :: older), ?_, .tuple #[], by simp [results, Try.results26], rfl, rfl, rfl⟩
  simp [raisedBy]

end Go.Proofs.Ytldbiohahkcpnaa
