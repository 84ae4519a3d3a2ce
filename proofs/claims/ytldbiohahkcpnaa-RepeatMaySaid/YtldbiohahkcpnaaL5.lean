/-
  Check accepts the valid repeat offsets: for every input the law returns true and each argument reads as it read before.
-/
import Derived.Test.YtldbiohahkcpnaaR4
import Derived.Test.YtldbiohahkcpnaaOpen
import Derived.Deep.RegionHeld3
import Derived.Test.YtldbiohahkcpnaaL5a
namespace Go.Proofs.Ytldbiohahkcpnaa
set_option linter.unusedVariables false
set_option linter.unusedSimpArgs false
open Go.ChangeShapes Go.WideShapes Go.ChangeAt Go.RowKit Go.Joins

set_option maxHeartbeats 1000000 in
theorem law_may (a b c : Int) (w : World) : Calls Try.prog 7 #[.agg #[.int .i64 a, .int .i64 b, .int .i64 c]] w (LawEnd w) := by
  have G1 : ∀ w, Calls Try.prog 20 #[.agg #[.int .i64 a, .int .i64 b, .int .i64 c]] w fun e w' => e = .returned (.int .i64 (if rightB a b c then 0 else 2)) ∧ Keeps w w' [] :=
    fun w => (check_any a b c w).mono (fun e w' h => ⟨h.1, by rw [h.2]; exact ((Keeps.refl w []).alloc _).alloc _⟩)
  have G2 : ∀ w, Calls Try.prog 21 #[.agg #[.int .i64 a, .int .i64 b, .int .i64 c]] w fun e w' => e = .returned (.bool (rightB a b c)) ∧ Keeps w w' [] :=
    fun w => (r_right a b c w).mono (fun e w' h => ⟨h.1, by rw [h.2]; exact (Keeps.refl w []).alloc _⟩)
  have hk : Keeps w (w.alloc (.cells #[.int .i64 a, .int .i64 b, .int .i64 c] 22)) [] := (Keeps.refl w []).alloc _
  generalize rightB a b c = R at *
  cases R
  all_goals
    simp only [Bool.false_eq_true, if_false, if_true] at G1
    have G1 := Lib.hid G1
    have G2 := Lib.hid G2
    go_enter Try.func7, Try.ntmps7
    go_wp2_with fail
    have hb := Blk.new w #[.int .i64 a, .int .i64 b, .int .i64 c] 22
    have hlt := hb.lt
    generalize w.alloc (.cells #[.int .i64 a, .int .i64 b, .int .i64 c] 22) = w1 at *
    have k1 : Keeps w w1 [] := hk
    obtain ⟨c0, c1, c2, -⟩ := hb.three
    go_region_held3 (fun w' => w'.cell? ⟨w.heap.size, 0, none⟩ = some (.int .i64 a) ∧ w'.cell? ⟨w.heap.size, 1, none⟩ = some (.int .i64 b) ∧ w'.cell? ⟨w.heap.size, 2, none⟩ = some (.int .i64 c) ∧ w.heap.size < w'.heap.size ∧ Keeps w w' [])
      (first | exact ⟨‹_›, ‹_›, ‹_›, ‹_›, ‹_›⟩ | exact ⟨c0, c1, c2, hlt, k1.drew⟩)
      (first | (go_at_call 20; refine (G1.out _).mono ?_; rintro e w' ⟨rfl, kk⟩; obtain ⟨i0, i1, i2, i3, i4⟩ := ‹_ ∧ _ ∧ _ ∧ _ ∧ Keeps w _ []›; have q0 := (kk.cell (p := ⟨w.heap.size, 0, none⟩) i3 (by simp)).trans i0; have q1 := (kk.cell (p := ⟨w.heap.size, 1, none⟩) i3 (by simp)).trans i1; have q2 := (kk.cell (p := ⟨w.heap.size, 2, none⟩) i3 (by simp)).trans i2; have q3 := Nat.lt_of_lt_of_le i3 kk.size; have q4 := Keeps.then i4 kk) | (go_at_call 21; refine (G2.out _).mono ?_; rintro e w' ⟨rfl, kk⟩; obtain ⟨i0, i1, i2, i3, i4⟩ := ‹_ ∧ _ ∧ _ ∧ _ ∧ Keeps w _ []›; have q0 := (kk.cell (p := ⟨w.heap.size, 0, none⟩) i3 (by simp)).trans i0; have q1 := (kk.cell (p := ⟨w.heap.size, 1, none⟩) i3 (by simp)).trans i1; have q2 := (kk.cell (p := ⟨w.heap.size, 2, none⟩) i3 (by simp)).trans i2; have q3 := Nat.lt_of_lt_of_le i3 kk.size; have q4 := Keeps.then i4 kk) | (go_at_call 15; refine (works_true _).mono ?_; rintro e w' ⟨rfl, kk⟩; obtain ⟨i0, i1, i2, i3, i4⟩ := ‹_ ∧ _ ∧ _ ∧ _ ∧ Keeps w _ []›; have q0 := (kk.cell (p := ⟨w.heap.size, 0, none⟩) i3 (by simp)).trans i0; have q1 := (kk.cell (p := ⟨w.heap.size, 1, none⟩) i3 (by simp)).trans i1; have q2 := (kk.cell (p := ⟨w.heap.size, 2, none⟩) i3 (by simp)).trans i2; have q3 := Nat.lt_of_lt_of_le i3 kk.size; have q4 := Keeps.then i4 kk))
    go_wp2_with fail
    go_ret
    exact ⟨rfl, q4.below⟩

set_option maxRecDepth 100000 in
theorem repeatMay_lifted (os : Os) (started : os.Started) (H : Type) (enc : TypeId × Value → H) :
    ReturnsInHanded {} Try.checked os 7 .any (Rows.repeatMaySpec.pre6 enc Try.prog Try.f7 Rows.repeatMayRow.domain false) (Rows.repeatMaySpec.post enc Try.prog Try.f7 false true false false) :=
  returnsInHanded_of_change (C := Try.checked) Try.own started (by kernel_rfl) Try.func7
    (ChangeSpec.witness6 (enc := enc) (C := Try.checked) false ⟨#[], #[.agg #[.int .i64 0, .int .i64 0, .int .i64 0]], []⟩ 8 (by kernel_rfl) (by kernel_rfl) (by kernel_rfl) (by kernel_rfl))
    (law_contract (C := Try.checked) Try.laidOut rfl
      (fun ds hd => by
        match ds, hd with
        | [d1], _ => rfl)
      (fun t ht => by
        have : t = 22 := by simpa [Try.params7] using ht
        rcases this with rfl <;> exact ⟨by kernel_rfl, of_decide_eq_true (by kernel_rfl)⟩)
      (tb := 4) rfl Try.underlying4
      (fun W base args ds ps hval0 hA0 hlt hnf => by
        have hval : ∀ (j : Nat) t v, Try.f7.params[j]? = some t → args[j]? = some v → Value.okWide Try.prog W .any base t v := hval0
        have hA : DataW.TrodAll enc Try.prog W 0 (fun _ => true) true Try.f7.params.toList args.toList ds ps := hA0
        rw [Try.params7] at hA hval
        obtain ⟨v0, d0, rfl, rfl, h0⟩ := trodAll_one hA
        obtain ⟨a, b, c, rfl, -⟩ := open_arr3 Try.underlying22 Try.underlying3 (by kernel_rfl) (by kernel_rfl) (hval 0 22 v0 rfl rfl) h0
        exact law_may a b c W))

theorem repeatMay_holds : Rows.RepeatMaySaid :=
  OpenClaim.holds_of_wide 7 Try.f7 rfl rfl rfl rfl rfl rfl rfl ⟨rfl, rfl, rfl, rfl, rfl⟩ rfl rfl rfl rfl rfl (by kernel_rfl) Try.func7 (by kernel_rfl)
    (of_decide_eq_true (by kernel_rfl)) (by unfold Func.isWrapper; first | (rw [if_pos (by decide +kernel)]; kernel_rfl) | (rw [if_neg (by decide +kernel)]; exact ⟨rfl, rfl⟩))
    (fun os started H enc _ => repeatMay_lifted os started H enc)

#print axioms repeatMay_holds

end Go.Proofs.Ytldbiohahkcpnaa
