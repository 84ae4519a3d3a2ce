/-
  Walks of an index: Find, Count.
-/
import Derived.Test.YticlhaofmcajpaaI6
namespace Go.Proofs.Yticlhaofmcajpaa
set_option linter.unusedVariables false
set_option linter.unusedSimpArgs false
set_option linter.unusedSectionVars false
open Go.RowKit

/-- What Find and Count hand back. -/
def findV (K : Nat) (B l : List Int) : Option Int := if l.length = K then lastN K B (nk K B) (pad l) else none
def countV (K : Nat) (B l : List Int) : Int := if l.length = K then (plN K B (nk K B) (pad l)).length else 0

set_option maxHeartbeats 1000000 in
theorem find_any (p K : Nat) (B l : List Int) (v : Value) (S : List Nat) (w : World) (h : Idx w p K B S) (hv : RdI .u8 w v l) (hl : ∀ x ∈ l, 0 ≤ x ∧ x ≤ 255) :
    Calls Try.prog 24 #[.pointer (some ⟨p, 0, none⟩), v] w fun e w' => e = .returned (optV (findV K B l)) ∧ Keeps w w' [] := by
  obtain ⟨ab, cb, ap, cp, L, C, c0, c1, c2, c3, c4, -, -, mL, mC, -⟩ := h.1.cells
  have hK1 := h.2.k1
  have hK8 := h.2.k8
  have hN := Lib.hid (none_any p K w hK1 c1)
  have lp := h.1.lt0
  obtain ⟨A0, n, c, rfl, hn, -⟩ := hv.form
  clear h
  by_cases hnk : n = K
  · have hf : Hid (findV K B l = lastN K B (nk K B) (pad l)) := by show _ = _; rw [findV, if_pos (by rw [← hn]; exact hnk)]
    have hq8 : KeyWf (pad l) := ⟨pad_len (by omega), pad_bytes hl⟩
    have hnk' : ((n : Int) != (K : Int)) = false := by simp [hnk]
    obtain ⟨x0, x1, x2, x3, x4, x5, x6, x7, hx⟩ := eight (pad_len (l := l) (by omega))
    have HKV : Hid (keyV (pad l) = .agg #[.int .u8 x0, .int .u8 x1, .int .u8 x2, .int .u8 x3, .int .u8 x4, .int .u8 x5, .int .u8 x6, .int .u8 x7]) := by show _ = _; rw [hx]; rfl
    have HV := Lib.hid hv
    have HL : Hid (l.length = K) := by show _ = _; omega
    have HM := Lib.hid mL
    clear hx hn hl hv mL mC
    generalize lastN K B (nk K B) = f at *
    subst hnk
    go_enter Try.func24, Try.ntmps24
    go_wp2_with (go_at_call 28; refine hN.out.mono ?_; rintro e w' ⟨rfl, rfl⟩)
    have kr := Keeps.refl w []
    go_region_held3 (fun w' => w'.cell? ⟨p, 2, none⟩ = some (.map (some L)) ∧ Keeps w w' [])
      (first
        | with_reducible exact ⟨c2, Keeps.refl _ _⟩
        | (refine holdS c2 lp ?_; repeat' first | with_reducible assumption | with_reducible exact (‹_ ∧ Keeps w _ []›).2 | with_reducible refine Keeps.drew ?_ | with_reducible refine Keeps.alloc ?_ _))
      ((go_at_call 29; obtain ⟨g1, g2⟩ := ‹_ ∧ Keeps w _ []›; refine (of_any p n _ l _ (g2.cell (p := ⟨p, 1, none⟩) lp (by simp) |>.trans c1) (Nat.lt_of_lt_of_le lp g2.size) hK1 hK8 (HV.out.keeps g2) HL.out).mono ?_; rintro e w' ⟨rfl, kk⟩; rw [HKV.out]; have q1 := g2.then kk; have hl1 := (HM.out.keeps q1 (by simp)).look_ok hq8; rw [HKV.out] at hl1; have hl2 := (HM.out.keeps q1.drew (by simp)).look_ok hq8; rw [HKV.out] at hl2))
    all_goals
      generalize f (pad l) = o at *
      go_wp2_with fail
      go_ret2
      refine ⟨by rw [hf.out]; rfl, ?_⟩
      first | with_reducible exact q1 | with_reducible exact q1.drew
  · have hf : Hid (findV K B l = none) := by show _ = _; rw [findV, if_neg (by rw [← hn]; exact hnk)]
    have hnk' : ((n : Int) != (K : Int)) = true := by simp; omega
    clear mL mC hv hn
    go_enter Try.func24, Try.ntmps24
    go_wp2_with (go_at_call 28; refine hN.out.mono ?_; rintro e w' ⟨rfl, rfl⟩)
    go_ret2
    exact ⟨by rw [hf.out]; rfl, Keeps.refl _ _⟩

set_option maxHeartbeats 1000000 in
theorem count_any (p K : Nat) (B l : List Int) (v : Value) (S : List Nat) (w : World) (h : Idx w p K B S) (hv : RdI .u8 w v l) (hl : ∀ x ∈ l, 0 ≤ x ∧ x ≤ 255) :
    Calls Try.prog 27 #[.pointer (some ⟨p, 0, none⟩), v] w fun e w' => e = .returned (.int .i64 (countV K B l)) ∧ Keeps w w' [] := by
  obtain ⟨ab, cb, ap, cp, L, C, c0, c1, c2, c3, c4, -, -, mL, mC, -⟩ := h.1.cells
  have hK1 := h.2.k1
  have hK8 := h.2.k8
  have hN := Lib.hid (none_any p K w hK1 c1)
  have lp := h.1.lt0
  obtain ⟨A0, n, c, rfl, hn, -⟩ := hv.form
  clear h
  by_cases hnk : n = K
  · have hf : Hid (countV K B l = (cntN K B (nk K B) (pad l)).getD 0) := by show _ = _; rw [countV, if_pos (by rw [← hn]; exact hnk), cntN_len]
    have hq8 : KeyWf (pad l) := ⟨pad_len (by omega), pad_bytes hl⟩
    have hnk' : ((n : Int) != (K : Int)) = false := by simp [hnk]
    obtain ⟨x0, x1, x2, x3, x4, x5, x6, x7, hx⟩ := eight (pad_len (l := l) (by omega))
    have HKV : Hid (keyV (pad l) = .agg #[.int .u8 x0, .int .u8 x1, .int .u8 x2, .int .u8 x3, .int .u8 x4, .int .u8 x5, .int .u8 x6, .int .u8 x7]) := by show _ = _; rw [hx]; rfl
    have HV := Lib.hid hv
    have HL : Hid (l.length = K) := by show _ = _; omega
    have HM := Lib.hid mC
    clear hx hn hl hv mL mC
    generalize cntN K B (nk K B) = f at *
    subst hnk
    go_enter Try.func27, Try.ntmps27
    go_wp2_with (go_at_call 28; refine hN.out.mono ?_; rintro e w' ⟨rfl, rfl⟩)
    have kr := Keeps.refl w []
    go_region_held3 (fun w' => w'.cell? ⟨p, 3, none⟩ = some (.map (some C)) ∧ Keeps w w' [])
      (first
        | with_reducible exact ⟨c3, Keeps.refl _ _⟩
        | (refine holdS c3 lp ?_; repeat' first | with_reducible assumption | with_reducible exact (‹_ ∧ Keeps w _ []›).2 | with_reducible refine Keeps.drew ?_ | with_reducible refine Keeps.alloc ?_ _))
      ((go_at_call 29; obtain ⟨g1, g2⟩ := ‹_ ∧ Keeps w _ []›; refine (of_any p n _ l _ (g2.cell (p := ⟨p, 1, none⟩) lp (by simp) |>.trans c1) (Nat.lt_of_lt_of_le lp g2.size) hK1 hK8 (HV.out.keeps g2) HL.out).mono ?_; rintro e w' ⟨rfl, kk⟩; rw [HKV.out]; have q1 := g2.then kk; have hl1 := (HM.out.keeps q1 (by simp)).look hq8; rw [HKV.out] at hl1; have hl2 := (HM.out.keeps q1.drew (by simp)).look hq8; rw [HKV.out] at hl2))
    all_goals
      generalize f (pad l) = o at *
      go_wp2_with fail
      go_ret
      refine ⟨by rw [hf.out]; rfl, ?_⟩
      first | with_reducible exact q1 | with_reducible exact q1.drew
  · have hf : Hid (countV K B l = 0) := by show _ = _; rw [countV, if_neg (by rw [← hn]; exact hnk)]
    have hnk' : ((n : Int) != (K : Int)) = true := by simp; omega
    clear mL mC hv hn
    go_enter Try.func27, Try.ntmps27
    go_wp2_with (go_at_call 28; refine hN.out.mono ?_; rintro e w' ⟨rfl, rfl⟩)
    go_ret
    exact ⟨by rw [hf.out]; rfl, Keeps.refl _ _⟩

end Go.Proofs.Yticlhaofmcajpaa
