/-
  The law on raw dictionaries: its walk. (Printed by mkDP.py.)
-/
import Derived.Test.YtcmagccfagijlaaGreatDO
import Derived.Test.YtcmagccfagijlaaGreatLift
namespace Go.Proofs.YtcmagccfagijlaaGreat
set_option linter.unusedVariables false
set_option linter.unusedSimpArgs false
set_option linter.unusedSectionVars false
open Go.RowKit

set_option maxRecDepth 100000 in
set_option maxHeartbeats 8000000 in
theorem law_plain (v : Value) (l : List Int) (w : World) (hv : RdI .u8 w v l) (hl : ∀ x ∈ l, 0 ≤ x ∧ x ≤ 255) : Calls Tryz.prog 3 #[v] w (LawEnd w) := by
  obtain ⟨A0, n, cp0, rfl, hnl, -⟩ := hv.form
  by_cases hbig : 3000 < n
  · clear hv hnl hl
    have h1 : (3000 : Int) < (n : Int) := by omega
    go_enter Tryz.func3, Tryz.ntmps3
    go_wp2_with (go_at_call 11; refine (known_true _).mono ?_; rintro e w5 ⟨rfl, kk⟩)
    go_ret
    exact ⟨rfl, kk.below⟩
  have hd : decide ((3000 : Int) < (n : Int)) = false := by simp; omega
  have HO := Lib.hid (r_own _ l w hv (by omega))
  have HMK := Lib.hid (fun w1 (k : Keeps w w1 []) => r_marked _ l w1 (hv.keeps k) hl)
  cases hm : markB l with
  | true =>
    have HRW := Lib.hid (fun w1 u (h : RdI .u8 w1 u l) => raw_no u l w1 h hl hm)
    rw [hm] at HMK
    clear hv hnl hl hm
    go_enter Tryz.func3, Tryz.ntmps3
    go_wp2_with (first
      | (go_at_call 13; go_loud (refine HO.out.mono ?_; rintro e w1 ⟨v1, rfl, own1, k1⟩; have r1 := own_reads own1))
      | (go_at_call 12; go_loud (refine (HRW.out _ _ r1).mono ?_; rintro e w2 ⟨rfl, k2⟩; have kw2 := k1.then k2))
      | (go_at_call 14; go_loud (refine (HMK.out _ (kw2.alloc _)).mono ?_; rintro e w3 ⟨rfl, rfl⟩; have bd := Blk.new w2 zeroC 32))
      | (go_at_call 15; go_loud (refine (dsame_yes 0 0 0 0 0 0 0 _ _ _ _ _ _ _ _ _ _ [] [] [] [] [] _ .nil .nil .nil .nil .nil .nil .nil .nil .nil .nil (by simp) (by simp) (by simp) (by simp)).mono ?_; rintro e w4 ⟨rfl, k4⟩))
      | (go_at_call 11; refine (known_true _).mono ?_; rintro e w5 ⟨rfl, kk⟩))
    go_ret
    exact ⟨rfl, (((kw2.alloc _).then k4).then kk).below⟩
  | false =>
    have HRW := Lib.hid (fun w1 u (h : RdI .u8 w1 u l) => raw_yes u l w1 h hl (by omega) hm)
    have HPL := Lib.hid (fun w1 (k : Keeps w w1 []) => r_plain _ l w1 (hv.keeps k) (by omega))
    have HVA := Lib.hid (fun w1 x (h : RdI .u8 w1 x l) => valid_raw x l w1 h hl (by omega) hm)
    rw [hm] at HMK
    clear hv hnl hl hm
    go_enter Tryz.func3, Tryz.ntmps3
    go_wp2_with (first
      | (go_at_call 13; go_loud (refine HO.out.mono ?_; rintro e w1 ⟨v1, rfl, own1, k1⟩; have r1 := own_reads own1))
      | (go_at_call 12; go_loud (refine (HRW.out _ _ r1).mono ?_; rintro e w2 ⟨x2, rfl, rx, -, k2⟩; obtain ⟨xa, xm, xc, rfl, -, -⟩ := rx.form; have kw2 := k1.then k2))
      | (go_at_call 14; go_loud (refine (HMK.out _ (kw2.alloc _)).mono ?_; rintro e w3 ⟨rfl, rfl⟩)))
    have bd := Blk.new w2 (rawC (.slice xa xm xc)) 32
    replace rx := rx.keeps ((Keeps.refl w2 []).alloc (.cells (rawC (.slice xa xm xc)) 32))
    have k0 := kw2.alloc (.cells (rawC (.slice xa xm xc)) 32)
    clear r1 own1 kw2 k1 k2
    generalize w2.alloc (.cells (rawC (.slice xa xm xc)) 32) = W5 at *
    generalize w2.heap.size = G at *
    have zk := Keeps.refl W5 []
    refine wp_region_held_drew (S := (fun w' => Blk w' G (rawC (.slice xa xm xc)) 32 ∧ Keeps W5 w' [])) (by kernel_rfl) ⟨bd.drew, zk.drew⟩ (fun hHeld => ?_)
    refine takeL (i := 0) (v := ?_) rfl (by kernel_rfl) (by kernel_rfl) (by kernel_rfl) (fun _ _ _ h => h) (by rfl) ?_ (by assumption) ?_
    rotate_left
    · (intro w9 hSw; clear hSw; go_simp; (try with_reducible rfl))
    try simp only [Act.put, List.setIfInBounds_toArray, List.set_cons_zero, List.set_cons_succ]
    refine takeL (i := 1) (v := ?_) rfl (by kernel_rfl) (by kernel_rfl) (by kernel_rfl) (fun _ _ _ h => h) (by rfl) ?_ (by assumption) ?_
    rotate_left
    · (intro w9 hSw; clear hSw; go_simp; (try with_reducible rfl))
    try simp only [Act.put, List.setIfInBounds_toArray, List.set_cons_zero, List.set_cons_succ]
    refine takeL (i := 2) (v := ?_) rfl (by kernel_rfl) (by kernel_rfl) (by kernel_rfl) (fun _ _ _ h => h) (by rfl) ?_ (by assumption) ?_
    rotate_left
    · (intro w9 hSw; clear hSw; go_simp; (try with_reducible rfl))
    try simp only [Act.put, List.setIfInBounds_toArray, List.set_cons_zero, List.set_cons_succ]
    refine takeL (i := 3) (v := ?_) rfl (by kernel_rfl) (by kernel_rfl) (by kernel_rfl) (fun _ _ _ h => h) (by rfl) ?_ (by assumption) ?_
    rotate_left
    · (intro w9 hSw; obtain ⟨hS1, -⟩ := hSw; obtain ⟨q0, q1, q2, q3, q4, q5, q6, q7, q8, q9, qa, qb⟩ := dict_cells hS1; clear hS1; go_simp; (try with_reducible rfl))
    try simp only [Act.put, List.setIfInBounds_toArray, List.set_cons_zero, List.set_cons_succ]
    refine takeL (i := 4) (v := ?_) rfl (by kernel_rfl) (by kernel_rfl) (by kernel_rfl) (fun _ _ _ h => h) (by rfl) ?_ (by assumption) ?_
    rotate_left
    · (intro w9 hSw; clear hSw; go_simp; (try with_reducible rfl))
    try simp only [Act.put, List.setIfInBounds_toArray, List.set_cons_zero, List.set_cons_succ]
    refine callL (i := 5) rfl (by kernel_rfl) (fun Kont hK => ?_)
    go_simp
    refine (HPL.out _ (k0.then hHeld.2)).mono ?_; rintro e w6 ⟨x6, rfl, r6, -, kk⟩; obtain ⟨ya, ym, yc, rfl, -, -⟩ := r6.form
    go_wp2_with fail
    refine hK.out _ _ ?_ (fun hHeld => ?_)
    · (exact ⟨hHeld.1.keeps kk (by simp), hHeld.2.then kk⟩)
    clear hK Kont
    refine callL (i := 6) rfl (by kernel_rfl) (fun Kont hK => ?_)
    go_simp
    refine (dsame_yes 0 0 0 0 1 4 8 _ _ _ _ _ _ _ _ _ _ [] [] [] [] l _ .nil .nil .nil .nil .nil .nil .nil .nil (rx.keeps hHeld.2) r6 (by simp) (by simp) (by simp) (by simp)).mono ?_; rintro e w7 ⟨rfl, kk⟩
    go_wp2_with fail
    refine hK.out _ _ ?_ (fun hHeld => ?_)
    · (exact ⟨hHeld.1.keeps kk (by simp), hHeld.2.then kk⟩)
    clear hK Kont
    refine takeL (i := 7) (v := ?_) rfl (by kernel_rfl) (by kernel_rfl) (by kernel_rfl) (fun _ _ _ h => h) (by rfl) ?_ (by assumption) ?_
    rotate_left
    · (intro w9 hSw; clear hSw; go_simp; (try with_reducible rfl))
    try simp only [Act.put, List.setIfInBounds_toArray, List.set_cons_zero, List.set_cons_succ]
    refine takeL (i := 8) (v := ?_) rfl (by kernel_rfl) (by kernel_rfl) (by kernel_rfl) (fun _ _ _ h => h) (by rfl) ?_ (by assumption) ?_
    rotate_left
    · (intro w9 hSw; clear hSw; go_simp; (try with_reducible rfl))
    try simp only [Act.put, List.setIfInBounds_toArray, List.set_cons_zero, List.set_cons_succ]
    refine takeL (i := 9) (v := ?_) rfl (by kernel_rfl) (by kernel_rfl) (by kernel_rfl) (fun _ _ _ h => h) (by rfl) ?_ (by assumption) ?_
    rotate_left
    · (intro w9 hSw; obtain ⟨hS1, -⟩ := hSw; obtain ⟨q0, q1, q2, q3, q4, q5, q6, q7, q8, q9, qa, qb⟩ := dict_cells hS1; clear hS1; go_simp; (try with_reducible rfl))
    try simp only [Act.put, List.setIfInBounds_toArray, List.set_cons_zero, List.set_cons_succ]
    refine callL (i := 10) rfl (by kernel_rfl) (fun Kont hK => ?_)
    go_simp
    refine (HVA.out _ _ (rx.keeps hHeld.2)).mono ?_; rintro e w8 ⟨rfl, kk⟩
    go_wp2_with fail
    refine hK.out _ _ ?_ (fun hHeld => ?_)
    · (exact ⟨hHeld.1.keeps kk (by simp), hHeld.2.then kk⟩)
    clear hK Kont
    refine takeL (i := 11) (v := ?_) rfl (by kernel_rfl) (by kernel_rfl) (by kernel_rfl) (fun _ _ _ h => h) (by rfl) ?_ (by assumption) ?_
    rotate_left
    · (intro w9 hSw; clear hSw; go_simp; (try with_reducible rfl))
    try simp only [Act.put, List.setIfInBounds_toArray, List.set_cons_zero, List.set_cons_succ]
    refine takeL (i := 12) (v := ?_) rfl (by kernel_rfl) (by kernel_rfl) (by kernel_rfl) (fun _ _ _ h => h) (by rfl) ?_ (by assumption) ?_
    rotate_left
    · (intro w9 hSw; clear hSw; go_simp; (try with_reducible rfl))
    try simp only [Act.put, List.setIfInBounds_toArray, List.set_cons_zero, List.set_cons_succ]
    refine callL (i := 13) rfl (by kernel_rfl) (fun Kont hK => ?_)
    go_simp
    refine (known_true _).mono ?_; rintro e w8 ⟨rfl, kk⟩
    go_wp2_with fail
    refine hK.out _ _ ?_ (fun hHeld => ?_)
    · (exact ⟨hHeld.1.keeps kk (by simp), hHeld.2.then kk⟩)
    clear hK Kont
    refine takeL (i := 14) (v := ?_) rfl (by kernel_rfl) (by kernel_rfl) (by kernel_rfl) (fun _ _ _ h => h) (by rfl) ?_ (by assumption) ?_
    rotate_left
    · (intro w9 hSw; clear hSw; go_simp; (try with_reducible rfl))
    try simp only [Act.put, List.setIfInBounds_toArray, List.set_cons_zero, List.set_cons_succ]
    refine takeL (i := 15) (v := ?_) rfl (by kernel_rfl) (by kernel_rfl) (by kernel_rfl) (fun _ _ _ h => h) (by rfl) ?_ (by assumption) ?_
    rotate_left
    · (intro w9 hSw; clear hSw; go_simp; (try with_reducible rfl))
    try simp only [Act.put, List.setIfInBounds_toArray, List.set_cons_zero, List.set_cons_succ]
    refine wpAnyH_done (by kernel_rfl) ?_ _
    go_wp2_with fail
    go_ret
    exact ⟨rfl, (k0.then hHeld.2).below⟩

end Go.Proofs.YtcmagccfagijlaaGreat
