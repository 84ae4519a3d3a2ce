/-
  Walks of the reference of package index: New, Add, First, num.
-/
import Derived.Test.YticlhaofmcajpaaI8
namespace Go.Proofs.Yticlhaofmcajpaa
set_option linter.unusedVariables false
set_option linter.unusedSimpArgs false
set_option linter.unusedSectionVars false
open Go.RowKit

theorem num_any (n : Int) (w : World) : Calls Try.prog 18 #[.int .i64 n] w fun e w' => e = .returned (.int .i64 n) ∧ w = w' := by
  go_enter Try.func18, Try.ntmps18
  go_wp2
  go_ret
  exact ⟨rfl, rfl⟩

/-- A reference index as a value. -/
def refV (K : Nat) (v : Value) : Value := .agg #[.int .i64 (K : Int), v]

set_option maxHeartbeats 1000000 in
theorem r_new_yes (k : Nat) (w : World) (h1 : 1 ≤ k) (h8 : k ≤ 8) : Calls Try.prog 12 #[.int .i64 k] w fun e w' => e = .returned (.tuple #[.agg #[.int .i64 (k : Int), .slice none 0 0], .int .i64 0]) ∧ Keeps w w' [] := by
  have d1 : decide ((k : Int) < 1) = false := decide_eq_false (by omega)
  have d2 : decide ((8 : Int) < (k : Int)) = false := decide_eq_false (by omega)
  go_enter Try.func12, Try.ntmps12
  go_wp2_with fail
  refine bodyPost_ret (v := .tuple #[.agg #[.int .i64 (k : Int), .slice none 0 0], .int .i64 0]) (by simp only [results, Try.results12]; go_simp) rfl ⟨rfl, ?_⟩
  repeat' first | with_reducible exact Keeps.refl _ _ | with_reducible refine Keeps.drew ?_ | with_reducible refine Keeps.alloc ?_ _ | with_reducible refine Keeps.setCell' (.inl (Nat.le_refl _)) ?_

set_option maxHeartbeats 1000000 in
theorem r_new_no (k : Int) (w : World) (h : k < 1 ∨ 8 < k) : Calls Try.prog 12 #[.int .i64 k] w fun e w' => e = .returned (.tuple #[.agg #[.int .i64 0, .slice none 0 0], .int .i64 2]) ∧ Keeps w w' [] := by
  by_cases h1 : k < 1
  · clear h
    go_enter Try.func12, Try.ntmps12
    go_wp2_with fail
    refine bodyPost_ret (v := .tuple #[.agg #[.int .i64 0, .slice none 0 0], .int .i64 2]) (by simp only [results, Try.results12]; go_simp) rfl ⟨rfl, ?_⟩
    repeat' first | with_reducible exact Keeps.refl _ _ | with_reducible refine Keeps.drew ?_ | with_reducible refine Keeps.alloc ?_ _ | with_reducible refine Keeps.setCell' (.inl (Nat.le_refl _)) ?_
  · have d1 : decide (k < 1) = false := decide_eq_false h1
    have h8 : 8 < k := by omega
    clear h h1
    go_enter Try.func12, Try.ntmps12
    go_wp2_with fail
    refine bodyPost_ret (v := .tuple #[.agg #[.int .i64 0, .slice none 0 0], .int .i64 2]) (by simp only [results, Try.results12]; go_simp) rfl ⟨rfl, ?_⟩
    repeat' first | with_reducible exact Keeps.refl _ _ | with_reducible refine Keeps.drew ?_ | with_reducible refine Keeps.alloc ?_ _ | with_reducible refine Keeps.setCell' (.inl (Nat.le_refl _)) ?_

theorem r_first (v : Value) (l : List Int) (w : World) (hv : RdI .i64 w v l) :
    Calls Try.prog 16 #[v] w fun e w' => e = .returned (optV l.head?) ∧ w = w' := by
  obtain ⟨A0, n, c, rfl, hn, -⟩ := hv.form
  cases l with
  | nil =>
    have hn0 : n = 0 := hn
    subst hn0
    clear hv hn
    go_enter Try.func16, Try.ntmps16
    go_wp2_with fail
    go_ret2
    exact ⟨rfl, rfl⟩
  | cons x r =>
    obtain ⟨b, o, rfl, hb, hc⟩ := hv.at (i := 0) (x := x) rfl
    have hcap := hv.cap
    have hn1 : 0 < n := by rw [hn]; simp
    have hn2 : ((n : Int) == 0) = false := by simp; omega
    rw [Nat.add_zero] at hc
    clear hv hn
    go_enter Try.func16, Try.ntmps16
    go_wp2_with fail
    go_ret2
    exact ⟨rfl, rfl⟩

set_option maxHeartbeats 2000000 in
theorem r_add (K : Nat) (v1 v2 : Value) (B b : List Int) (w : World) (h1 : RdI .u8 w v1 B) (h2 : RdI .u8 w v2 b) (hl : B.length + b.length ≤ 1000000) :
    Calls Try.prog 14 #[.agg #[.int .i64 (K : Int), v1], v2] w fun e w' => ∃ v', e = .returned (.agg #[.int .i64 (K : Int), v']) ∧ RdI .u8 w' v' (B ++ b) ∧ Keeps w w' [] ∧ (∀ ad m cp, v' = .slice (some ad) m cp → w.heap.size ≤ ad.block) := by
  obtain ⟨i0, hi, hz0, hz1, hz2⟩ := info_parts Try.infoByte
  obtain ⟨A1, n1, c1, rfl, hn1, -⟩ := h1.form
  obtain ⟨A2, n2, c2, rfl, hn2, -⟩ := h2.form
  have H1 := Lib.hid h1
  have H2 := Lib.hid h2
  clear h1 h2 hn1 hn2
  obtain ⟨W0, hW0⟩ : ∃ W0, W0 = (w.alloc (.cells #[.int .i64 (K : Int), .slice A1 n1 c1] 29)).alloc (.cells #[.int .i64 0, .slice none 0 0] 29) := ⟨_, rfl⟩
  have hs0 : W0.heap.size = w.heap.size + 1 + 1 := by rw [hW0]; simp
  have k0 : Keeps w W0 [] := by rw [hW0]; exact ((Keeps.refl w []).alloc _).alloc _
  have bX : Blk W0 w.heap.size #[.int .i64 (K : Int), .slice A1 n1 c1] 29 := by rw [hW0]; exact (Blk.new w _ _).alloc _
  have bY : Blk W0 (w.heap.size + 1) #[.int .i64 0, .slice none 0 0] 29 := by
    rw [hW0]
    have := Blk.new (w.alloc (.cells #[.int .i64 (K : Int), .slice A1 n1 c1] 29)) #[.int .i64 0, .slice none 0 0] 29
    rwa [World.size_alloc] at this
  have ow := own_build0 W0 5 1
  rw [hs0] at ow
  have OW : Hid (World.ownsRow (((w.alloc (.cells #[.int .i64 (K : Int), .slice A1 n1 c1] 29)).alloc (.cells #[.int .i64 0, .slice none 0 0] 29)).alloc (.cells #[] 5)) (w.heap.size + 1 + 1) 5 1 (.slice (some ⟨w.heap.size + 1 + 1, 0, none⟩) 0 0) 0 []) := hW0 ▸ ow
  have HW := Lib.hid hW0
  have BX := Lib.hid (bX.alloc (.cells #[] 5))
  have BY := Lib.hid (bY.alloc (.cells #[] 5))
  have K0 := Lib.hid (k0.alloc (.cells #[] 5))
  rw [hW0] at BX BY K0
  clear hW0 hs0 k0 bX bY ow HW
  go_enter Try.func14, Try.ntmps14
  go_wp2_with (first
    | (at_builtin; refine wpList_appendI rfl (.tmp 5) (.tmp 7) 22 rfl (w.heap.size + 1 + 1) 5 i0 (.int .u8 0) 1 Try.underlying22 hi hz0 hz1 hz2 rfl (.slice (some ⟨w.heap.size + 1 + 1, 0, none⟩) 0 0) 0 [] rfl OW.out (.slice A1 n1 c1) rfl .u8 B (H1.out.keeps K0.out) (by unfold maxLen; omega) (by omega) (by simp) ?_; intro va wa owna hga _; rw [Nat.zero_add, List.nil_append] at owna; obtain ⟨aa, ca, rfl⟩ := own_form owna; have ka := Keeps.of_grown (S := [w.heap.size + 1 + 1]) hga (fun j hj => by cases hj; simp); have bxa := BX.out.keeps ka (by simp; omega); have bya := BY.out.keeps ka (by simp); have kwa := K0.out.trans ka (fun x hx hlt => by have := List.mem_singleton.1 hx; omega))
    | (at_builtin; refine wpList_appendI rfl (.tmp 8) (.tmp 9) 22 rfl (w.heap.size + 1 + 1) 5 i0 (.int .u8 0) 1 Try.underlying22 hi hz0 hz1 hz2 rfl (.slice aa B.length ca) B.length (B.map (.int .u8)) rfl owna (.slice A2 n2 c2) rfl .u8 b (H2.out.keeps kwa) (by unfold maxLen; omega) (by omega) (by have := kwa.size; have := bya.lt; omega) ?_; intro vb wb ownb hgb _; obtain ⟨ab, cb, rfl⟩ := own_form ownb; have kb := Keeps.of_grown (S := (Value.ownBlock (.slice aa B.length ca)).toList) hgb (fun j hj => by simpa using hj); have hlow := fun x (hx : x ∈ (Value.ownBlock (.slice aa B.length ca)).toList) => (owna.lt x (by simpa using hx)).1; have bxb := bxa.keeps kb (fun hm => by have := hlow _ hm; omega); have byb := bya.keeps kb (fun hm => by have := hlow _ hm; omega); have kwb := kwa.trans kb (fun x hx hlt => by have := hlow _ hx; omega); obtain ⟨g0, g1, h0, h1, l0, l1, m0, m1⟩ := (⟨bxb.cell 0, bxb.cell 1, bxb.frozen 0, bxb.frozen 1, byb.cell 0, byb.cell 1, byb.frozen 0, byb.frozen 1⟩ : _ ∧ _ ∧ _ ∧ _ ∧ _ ∧ _ ∧ _ ∧ _)))
  have hlow2 : ∀ ad m cp, Value.slice ab (B.length + b.length) cb = .slice (some ad) m cp → 0 < m → ad.block ∉ [w.heap.size, w.heap.size + 1] := fun ad m cp he _ hm => by
    injection he with e1 e2 e3
    subst e1
    have := (ownb.lt ad.block rfl).1
    simp at hm
    omega
  have rb : RdI .u8 wb (.slice ab (B.length + b.length) cb) (B ++ b) := own_reads (by rw [List.length_append, List.map_append]; exact ownb)
  have kx : ∀ x y z, Keeps wb (((wb.setCell ⟨w.heap.size, 1, none⟩ x).setCell ⟨w.heap.size + 1, 0, none⟩ y).setCell ⟨w.heap.size + 1, 1, none⟩ z) [w.heap.size, w.heap.size + 1] := fun x y z => (((Keeps.refl wb _).setCell (a := ⟨w.heap.size, 1, none⟩) (.inr (by simp)) x).setCell (a := ⟨w.heap.size + 1, 0, none⟩) (.inr (by simp)) y).setCell (a := ⟨w.heap.size + 1, 1, none⟩) (.inr (by simp)) z
  refine bodyPost_ret (v := .agg #[.int .i64 (K : Int), .slice ab (B.length + b.length) cb]) (by simp only [results, Try.results14]; go_simp) rfl ⟨_, rfl, rb.keepsS (kx _ _ _) hlow2, kwb.trans (kx _ _ _) (fun x hx hlt => by simp at hx; omega), fun ad m cp he => by
    injection he with e1 e2 e3
    subst e1
    have := (ownb.lt ad.block rfl).1
    omega⟩

end Go.Proofs.Yticlhaofmcajpaa
