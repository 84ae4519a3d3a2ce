/-
  A row of zeros, just made.
-/
import Derived.Test.YticlhaofmcajpaaRw
namespace Go.Proofs.Yticlhaofmcajpaa
set_option linter.unusedVariables false
set_option linter.unusedSimpArgs false
open Go.RowKit

theorem Try.infoIntH : (Try.prog.info? 3).map (fun i => (i.zero, i.size, i.bytes)) = some (some (.int .i64 0), 1, 8) := by kernel_rfl
theorem make_listH (n : Nat) (hn : n ≤ 1000000) (w : World) : ∃ w', (Instr.makeSlice 37 (.int .i64 (n : Int)) (.int .i64 (n : Int))).run Try.prog w = .ok (.slice (some ⟨w.heap.size, 0, none⟩) n n) w' ∧
    RowI w' w.heap.size n n (List.replicate n 0) ∧ Keeps w w' [] := by
  obtain ⟨i0, hi, hz0, hz1, hz2⟩ := info_parts Try.infoIntH
  obtain ⟨w', h1, h2, h3⟩ := run_make_full (P := Try.prog) w w.heap.size 37 3 i0 (.int .i64 0) 1 Try.underlying37 hi hz0 hz1 .i64 .i64 n (by rw [hz2]; omega) (by unfold maxLen; omega) (Nat.le_refl _)
  refine ⟨w', h1, ⟨List.length_replicate .., ?_⟩, Keeps.of_grown h3 (fun k hk => by cases hk)⟩
  have e : (madeCells (Value.int .i64 0).cells (n * 1)).toList = List.map (Value.int .i64) (List.replicate n 0) := by
    rw [Nat.mul_one, List.map_replicate]
    exact toList_madeCells_one _ n
  rw [e] at h2
  exact own_base h2 (Nat.zero_le _)

end Go.Proofs.Yticlhaofmcajpaa
