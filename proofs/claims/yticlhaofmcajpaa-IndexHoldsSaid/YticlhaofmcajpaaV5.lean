/-
  Walks of the reference of package index: Bytes.
-/
import Derived.Test.YticlhaofmcajpaaV4
namespace Go.Proofs.Yticlhaofmcajpaa
set_option linter.unusedVariables false
set_option linter.unusedSimpArgs false
set_option linter.unusedSectionVars false
open Go.RowKit

set_option maxHeartbeats 1000000 in
theorem r_bytes (K : Nat) (v : Value) (B : List Int) (a b : Int) (w : World) (h : RdI .u8 w v B) (hB : B.length ≤ 1000000) :
    Calls Try.prog 40 #[.agg #[.int .i64 (K : Int), v], .int .i64 a, .int .i64 b] w fun e w' => ∃ v', e = .returned v' ∧ RdI .u8 w' v' (bytesL B a b) ∧ Keeps w w' [] := by
  obtain ⟨AA, n, c, rfl, hn, -⟩ := h.form
  have la := (clampN_spec B.length a).2
  have lb := (clampN_spec B.length b).2
  have ea := clamp5 B.length a
  have eb := clamp5 B.length b
  obtain ⟨A, hA⟩ : ∃ A, A = clampN B.length a := ⟨_, rfl⟩
  obtain ⟨Z, hZ⟩ : ∃ Z, Z = clampN B.length b := ⟨_, rfl⟩
  have hfin : Hid (bytesL B a b = (B.drop A).take (Z - A)) := by show _ = _; rw [hA, hZ]; rfl
  rw [← hA] at ea la
  rw [← hZ] at eb lb
  rw [← hn] at ea eb la lb hB
  have bX := Blk.new w #[.int .i64 (K : Int), .slice AA n c] 29
  have kX : Keeps w (w.alloc (.cells #[.int .i64 (K : Int), .slice AA n c] 29)) [] := (Keeps.refl w []).alloc _
  obtain ⟨g0, g1⟩ := (⟨bX.cell 0, bX.cell 1⟩ : _ ∧ _)
  have H := Lib.hid h
  have hcap := h.cap
  clear h hn hA hZ bX
  by_cases hlt : A < Z
  · obtain ⟨bb, oo, rfl, hbb, -⟩ := H.out.addr (by omega)
    have hpc := H.out.piece (p := A) (q := Z - A) (by omega) (c - A) (by omega)
    have HP := Lib.hid hpc
    clear hpc H
    have z1 : (Z : Int) ≤ (c : Int) := by omega
    have z2 : (0 : Int) ≤ (Z : Int) := Int.natCast_nonneg _
    have z3 : ¬ c = A := by omega
    have z4 : (A : Int) ≤ (Z : Int) := by omega
    have z5 : (0 : Int) ≤ (A : Int) := Int.natCast_nonneg _
    rcases ea with ⟨a1, a2⟩ | ⟨a1, a2⟩ | ⟨a1, a2, a3⟩ | ⟨a1, a2, a3⟩ | ⟨a1, a2, a3⟩
    all_goals rcases eb with ⟨b1, b2⟩ | ⟨b1, b2⟩ | ⟨b1, b2, b3⟩ | ⟨b1, b2, b3⟩ | ⟨b1, b2, b3⟩
    all_goals try (exfalso; omega)
    all_goals try subst a2
    all_goals try subst b2
    all_goals try subst a1
    all_goals try subst b1
    all_goals try subst a3
    all_goals try subst b3
    all_goals
      go_enter Try.func40, Try.ntmps40
      go_wp2_with fail
      go_region
      go_wp2_with fail
      go_ret
      exact ⟨_, rfl, by rw [hfin.out]; exact HP.out.keeps (kX.drew), kX.drew⟩
  · have hn2 : Hid (bytesL B a b = []) := by show _ = _; rw [hfin.out, show Z - A = 0 from by omega]; rfl
    rcases ea with ⟨a1, a2⟩ | ⟨a1, a2⟩ | ⟨a1, a2, a3⟩ | ⟨a1, a2, a3⟩ | ⟨a1, a2, a3⟩
    all_goals rcases eb with ⟨b1, b2⟩ | ⟨b1, b2⟩ | ⟨b1, b2, b3⟩ | ⟨b1, b2, b3⟩ | ⟨b1, b2, b3⟩
    all_goals try (exfalso; omega)
    all_goals try subst a2
    all_goals try subst b2
    all_goals try subst a1
    all_goals try subst b1
    all_goals try subst a3
    all_goals try subst b3
    all_goals
      go_enter Try.func40, Try.ntmps40
      go_wp2_with fail
      go_region
      go_wp2_with fail
      go_ret
      exact ⟨_, rfl, by rw [hn2.out]; exact RdI.nil, kX.drew⟩

end Go.Proofs.Yticlhaofmcajpaa
