/-
  Walks of an index: Bytes, Clone.
-/
import Derived.Test.YticlhaofmcajpaaI7
namespace Go.Proofs.Yticlhaofmcajpaa
set_option linter.unusedVariables false
set_option linter.unusedSimpArgs false
set_option linter.unusedSectionVars false
open Go.RowKit

set_option maxHeartbeats 1000000 in
theorem cloneb_any (ad : Addr) (n c : Nat) (l : List Int) (w : World) (hv : RdI .u8 w (.slice (some ad) n c) l) (hl : l.length ≤ 1000000) :
    Calls Try.prog 37 #[.slice (some ad) n c] w fun e w' => ∃ v', e = .returned v' ∧ w'.ownsRow w.heap.size 5 1 v' l.length (l.map (.int .u8)) ∧ Keeps w w' [] := by
  obtain ⟨i0, hi, hz0, hz1, hz2⟩ := info_parts Try.infoByte
  have HV := Lib.hid hv
  have heq : ∀ w : World, (binOp .eql 22 (.slice (some ad) n c) (.slice none 0 0)).run Try.prog w = .ok (.bool false) w := fun w => Lib.run_eql_slice_nil w _ _ _ _ _ _ _ Try.underlying22
  clear hv
  go_enter Try.func37, Try.ntmps37
  go_wp2_with (refine wpList_copyI rfl rfl rfl 22 5 _ _ _ rfl rfl rfl i0 (.int .u8 0) 1 Try.underlying22 hi hz0 hz1 hz2 rfl (.slice (some ad) n c) (fun _ => rfl) (fun _ => rfl) (fun _ => rfl) .u8 l HV.out (by unfold maxLen; omega) (by omega) ?_; intro v0 v1 w1 own1 k1 ne1; obtain ⟨a1, c1, rfl⟩ := own_form own1)
  go_ret
  exact ⟨_, rfl, own1, k1⟩

/-- The bytes between two positions. -/
def clampN (n : Nat) (x : Int) : Nat := (min (max 0 x) (n : Int)).toNat
def bytesL (B : List Int) (a b : Int) : List Int := (B.drop (clampN B.length a)).take (clampN B.length b - clampN B.length a)
theorem clampN_spec (n : Nat) (x : Int) : min (max 0 x) (n : Int) = (clampN n x : Int) ∧ clampN n x ≤ n := by unfold clampN; omega

theorem clamp5 (n : Nat) (x : Int) : (x < 0 ∧ clampN n x = 0) ∨ (0 = x ∧ clampN n x = 0) ∨ (0 < x ∧ x < n ∧ (clampN n x : Int) = x) ∨ (0 < x ∧ (clampN n x : Int) = x ∧ clampN n x = n) ∨ (0 < x ∧ (n : Int) < x ∧ clampN n x = n) := by unfold clampN; omega

set_option maxHeartbeats 1000000 in
theorem bytes_any (p K : Nat) (B : List Int) (a b : Int) (S : List Nat) (w : World) (h : Idx w p K B S) :
    Calls Try.prog 23 #[.pointer (some ⟨p, 0, none⟩), .int .i64 a, .int .i64 b] w fun e w' => ∃ v', e = .returned v' ∧ RdI .u8 w' v' (bytesL B a b) ∧ Keeps w w' [] := by
  have hL := Lib.hid (len_any p K B S w h)
  obtain ⟨ab, cb, ap, cp, L, C, c0, c1, c2, c3, c4, hr, -, -, -, hoff⟩ := h.1.cells
  have hB := h.2.len
  have la := (clampN_spec B.length a).2
  have lb := (clampN_spec B.length b).2
  have ea := clamp5 B.length a
  have eb := clamp5 B.length b
  obtain ⟨A, hA⟩ : ∃ A, A = clampN B.length a := ⟨_, rfl⟩
  obtain ⟨Z, hZ⟩ : ∃ Z, Z = clampN B.length b := ⟨_, rfl⟩
  have hfin : Hid (bytesL B a b = (B.drop A).take (Z - A)) := by show _ = _; rw [hA, hZ]; rfl
  rw [← hA] at ea la
  rw [← hZ] at eb lb
  have hF : Hid (A < Z → ∃ bb, Calls Try.prog 30 #[.pointer (some ⟨p, 0, none⟩), .int .i64 A, .int .i64 Z] w (fun e w' => e = .returned (.slice (some ⟨bb, A, none⟩) (Z - A) (Z - A)) ∧ w = w') ∧ RdI .u8 w (.slice (some ⟨bb, A, none⟩) (Z - A) (Z - A)) ((B.drop A).take (Z - A))) := fun hlt => by
    obtain ⟨bb, oo, rfl, hbb, -⟩ := hr.addr (by omega)
    obtain ⟨h1, h2⟩ := hoff _ rfl
    simp only at h1
    subst h1
    have hcap := hr.cap
    have hpc := hr.piece (p := A) (q := Z - A) (by omega) (Z - A) (Nat.le_refl _)
    rw [Nat.zero_add] at hpc
    exact ⟨bb, from_any p bb B.length cb A Z w c0 hlt lb hcap, hpc⟩
  have hll : ((B.drop A).take (Z - A)).length ≤ 1000000 := by simp; omega
  have hn : Hid (¬ A < Z → bytesL B a b = []) := fun hlt => by rw [hfin.out, show Z - A = 0 from by omega]; rfl
  generalize (B.drop A).take (Z - A) = R at *
  generalize B.length = N at *
  clear h hA hZ hr hoff c0 c1 c2 c3 c4
  by_cases hlt : A < Z
  · obtain ⟨bb, hf1, hf2⟩ := hF.out hlt
    have HF1 := Lib.hid hf1
    have HF2 := Lib.hid hf2
    clear hf1 hf2 hF hn
    rcases ea with ⟨a1, a2⟩ | ⟨a1, a2⟩ | ⟨a1, a2, a3⟩ | ⟨a1, a2, a3⟩ | ⟨a1, a2, a3⟩
    all_goals rcases eb with ⟨b1, b2⟩ | ⟨b1, b2⟩ | ⟨b1, b2, b3⟩ | ⟨b1, b2, b3⟩ | ⟨b1, b2, b3⟩
    all_goals try (exfalso; omega)
    all_goals try subst a2
    all_goals try subst b2
    all_goals try subst a1
    all_goals try subst b1
    all_goals try subst a3
    all_goals try subst b3
    all_goals
      have hf := HF1.out
      try rw [show ((0 : Nat) : Int) = 0 from rfl] at hf
      have HF3 := Lib.hid hf
      have hC := Lib.hid (cloneb_any _ _ _ R w HF2.out hll)
      clear hf HF1
      go_enter Try.func23, Try.ntmps23
      go_wp2_with (first | (go_at_call 22; ((with_reducible refine hL.out.mono ?_); rintro e w' ⟨rfl, rfl⟩)) | (go_at_call 30; refine HF3.out.mono ?_; rintro e w' ⟨rfl, rfl⟩) | (go_at_call 37; refine hC.out.mono ?_; rintro e w1 ⟨v1, rfl, own1, k1⟩))
      go_ret
      exact ⟨_, rfl, by rw [hfin.out]; exact own_reads own1, k1⟩
  · have hn2 := Lib.hid (hn.out hlt)
    clear hF hn
    rcases ea with ⟨a1, a2⟩ | ⟨a1, a2⟩ | ⟨a1, a2, a3⟩ | ⟨a1, a2, a3⟩ | ⟨a1, a2, a3⟩
    all_goals rcases eb with ⟨b1, b2⟩ | ⟨b1, b2⟩ | ⟨b1, b2, b3⟩ | ⟨b1, b2, b3⟩ | ⟨b1, b2, b3⟩
    all_goals try (exfalso; omega)
    all_goals try subst a2
    all_goals try subst b2
    all_goals try subst a1
    all_goals try subst b1
    all_goals try subst a3
    all_goals try subst b3
    all_goals
      go_enter Try.func23, Try.ntmps23
      go_wp2_with (first | (go_at_call 22; ((with_reducible refine hL.out.mono ?_); rintro e w' ⟨rfl, rfl⟩)))
      go_ret
      exact ⟨_, rfl, by rw [hn2.out]; exact RdI.nil, Keeps.refl _ _⟩

/-- How Clone ends. -/
def CloneEnd (w : World) (K : Nat) (B : List Int) (e : Ending) (w' : World) : Prop := ∃ o S, e = .returned (.pointer (some ⟨o, 0, none⟩)) ∧ Idx w' o K B S ∧ (∀ x ∈ S, w.heap.size ≤ x) ∧ Keeps w w' []

set_option maxHeartbeats 1000000 in
theorem clone_any (p K : Nat) (B : List Int) (S : List Nat) (w : World) (h : Idx w p K B S) :
    Calls Try.prog 26 #[.pointer (some ⟨p, 0, none⟩)] w (CloneEnd w K B) := by
  obtain ⟨ab, cb, ap, cp, L, C, c0, c1, c2, c3, c4, hr, -, -, -, hoff⟩ := h.1.cells
  have hN := Lib.hid (none_any p K w h.2.k1 c1)
  have hG := Lib.hid (new_yes K w h.2.k1 h.2.k8)
  have hA := Lib.hid (fun o S1 w1 (h1 : Idx w1 o K [] S1) (k1 : Keeps w w1 []) => add_any o K [] B (.slice ab B.length cb) S1 w1 h1 (hr.keeps k1) h.2.bytes (by simpa using h.2.len))
  have lp := h.1.lt0
  clear hr hoff h
  go_enter Try.func26, Try.ntmps26
  go_wp2_with (first | (go_at_call 28; refine hN.out.mono ?_; rintro e w' ⟨rfl, rfl⟩))
  refine hG.out.mono ?_
  rintro e w1 ⟨o, S1, rfl, hi, hS1, k1⟩
  have d0 := (k1.cell (p := ⟨p, 0, none⟩) lp (by simp)).trans c0
  have HA := Lib.hid (hA.out o S1 w1 hi k1)
  clear hA hG
  go_wp2_with fail
  refine HA.out.mono ?_
  rintro e w2 ⟨rfl, S2, hi2, hS2, k2⟩
  rw [List.nil_append] at hi2
  go_wp2_with fail
  go_ret
  exact ⟨o, S2, rfl, hi2, fun x hx => by rcases hS2 x hx with h | h; exact hS1 x h; exact Nat.le_trans k1.size h, k1.trans k2 (fun x hx hlt => absurd (hS1 x hx) (by omega))⟩

end Go.Proofs.Yticlhaofmcajpaa
