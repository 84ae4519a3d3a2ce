/-
  The law on Previous at every position: its walk.
-/
import Derived.Test.YticlhaofmcajpaaVA
namespace Go.Proofs.Yticlhaofmcajpaa
set_option linter.unusedVariables false
set_option linter.unusedSimpArgs false
set_option linter.unusedSectionVars false
open Go.RowKit

theorem LawEnd.of_keeps {w w' : World} (h : Keeps w w' []) : LawEnd w (.returned (.bool true)) w' := ⟨rfl, h.below⟩

set_option maxRecDepth 100000 in
set_option maxHeartbeats 4000000 in
theorem law_prevs (k : Int) (b : List Int) (v : Value) (w : World) (hv : RdI .u8 w v b) (hb : ∀ x ∈ b, 0 ≤ x ∧ x ≤ 255) :
    Calls Try.prog 3 #[.int .i64 k, v] w (LawEnd w) := by
  obtain ⟨A0, n, cp0, rfl, hnl, -⟩ := hv.form
  by_cases hbad : 300 < n ∨ k < 1 ∨ 8 < k
  · clear hv hnl hb
    rcases hbad with h1 | h1 | h1
    all_goals
      go_enter Try.func3, Try.ntmps3
      go_wp2_with (go_at_call 10; refine (works_true _).mono ?_; rintro e w5 ⟨rfl, kk⟩)
      all_goals
        go_ret
        exact LawEnd.of_keeps kk
  · have h1 : ¬ 300 < n := by omega
    have h2 : ¬ k < 1 := by omega
    have h3 : ¬ 8 < k := by omega
    obtain ⟨K, rfl⟩ := Int.eq_ofNat_of_zero_le (show 0 ≤ k by omega)
    have hK1 : 1 ≤ K := by omega
    have hK8 : K ≤ 8 := by omega
    have d1 : decide ((300 : Int) < (n : Int)) = false := decide_eq_false (by omega)
    have d2 : decide ((K : Int) < 1) = false := decide_eq_false (by omega)
    have d3 : decide ((8 : Int) < (K : Int)) = false := decide_eq_false (by omega)
    have hn3 : n ≤ 300 := by omega
    have HV := Lib.hid hv
    have HB := Lib.hid hb
    have HN := Lib.hid hnl
    clear hv hb hnl hbad h1 h2 h3
    go_enter Try.func3, Try.ntmps3
    go_wp2_with fail
    refine (new_yes K w hK1 hK8).mono ?_
    rintro e w1 ⟨p, S1, rfl, i1, l1, k1⟩
    go_wp2_with fail
    refine (r_new_yes K w1 hK1 hK8).mono ?_
    rintro e w2 ⟨rfl, k2⟩
    go_wp2_with fail
    have hs2 := k2.size
    have hs1 := k1.size
    refine (add_any p K [] b _ S1 _ ((i1.keep k2).keep ((Keeps.refl w2 []).alloc _)) ((HV.out.keeps (k1.then k2)).keeps ((Keeps.refl w2 []).alloc _)) HB.out (by have := HN.out; simp; omega)).mono ?_
    rintro e w3 ⟨rfl, S3, i3, l3, k3⟩
    rw [List.nil_append] at i3
    have kw3 : Keeps w w3 [] := ((k1.then k2).alloc _).trans k3 (fun x hx hlt => absurd (l1 x hx) (by omega))
    have bW := (Blk.new w2 #[.int .i64 (K : Int), .slice none 0 0] 29).keeps k3 (fun hm => by have := i1.lt _ hm; omega)
    have hl3 : ∀ x ∈ S3, x ≠ w2.heap.size := fun x hx he => by
      subst he
      rcases l3 _ hx with h | h
      · have := i1.lt _ h; omega
      · rw [World.size_alloc] at h; omega
    obtain ⟨g0, g1⟩ := (⟨bW.cell 0, bW.cell 1⟩ : _ ∧ _)
    go_wp2_with fail
    refine (r_add K (.slice none 0 0) _ [] b w3 RdI.nil (HV.out.keeps kw3) (by have := HN.out; simp; omega)).mono ?_
    rintro e w4 ⟨v4, rfl, r4, k4, hv4⟩
    rw [List.nil_append] at r4
    obtain ⟨A4, n4, c4, rfl, hn4, -⟩ := r4.form
    have HN4 := Lib.hid hn4
    clear hn4
    have bW4 := bW.keeps k4 (by simp)
    have i4 := i3.keep k4
    have lW4 := bW4.lt
    obtain ⟨h0, h1, f0, f1⟩ := (⟨bW4.cell 0, bW4.cell 1, bW4.frozen 0, bW4.frozen 1⟩ : _ ∧ _ ∧ _ ∧ _)
    have kw4 := kw3.then k4
    clear g0 g1
    have bW5 : Blk ((w4.setCell ⟨w2.heap.size, 0, none⟩ (.int .i64 (K : Int))).setCell ⟨w2.heap.size, 1, none⟩ (.slice A4 n4 c4)) w2.heap.size #[.int .i64 (K : Int), .slice A4 n4 c4] 29 := (bW4.set 0 _).set 1 _
    have k5 : Keeps w4 ((w4.setCell ⟨w2.heap.size, 0, none⟩ (.int .i64 (K : Int))).setCell ⟨w2.heap.size, 1, none⟩ (.slice A4 n4 c4)) [w2.heap.size] := ((Keeps.refl w4 _).setCell (.inr (by simp)) _).setCell (.inr (by simp)) _
    have i5 := i4.keeps k5 (fun x hx hm => hl3 x hx (List.mem_singleton.1 hm))
    have kw5 : Keeps w _ [] := kw4.trans k5 (fun x hx hlt => by have := List.mem_singleton.1 hx; omega)
    have r5 := r4.keepsS k5 (fun ad m cp he h0 hm => by have := hv4 ad m cp he; have := List.mem_singleton.1 hm; have := bW.lt; omega)
    have HL3 := Lib.hid hl3
    have HL1 := Lib.hid l1
    have H4 := Lib.hid hv4
    have I5 := Lib.hid i5
    have R5 := Lib.hid r5
    clear hl3 l1 l3 hv4 i1 i3 i4 r4 k1 k2 k3 k4 kw3 kw4 k5 bW bW4 hs1 hs2 r5 i5
    go_wp2_with fail
    generalize ((w4.setCell ⟨w2.heap.size, 0, none⟩ (.int .i64 (K : Int))).setCell ⟨w2.heap.size, 1, none⟩ (.slice A4 n4 c4)) = w5 at *
    go_loopw [10] (fun s10 wr => ∃ i : Int, -1 ≤ i ∧ i ≤ (n : Int) + 1 ∧ s10 = .int .i64 i ∧ Keeps w5 wr []) (fun s10 _ => ((n : Int) + 1 - intOf s10).toNat)
    case atStart => exact ⟨-1, by omega, by omega, rfl, Keeps.refl _ _⟩
    case round =>
      obtain ⟨i, hi1, hi2, rfl, kq⟩ := hrel
      have iq := I5.out.keep kq
      have bq := bW5.keeps kq (by simp)
      obtain ⟨g0, g1⟩ := (⟨bq.cell 0, bq.cell 1⟩ : _ ∧ _)
      have P1 := previous_any p K b S3 i wr iq
      rw [prevV_chain] at P1
      have P2 := r_chain K (.slice A4 n4 c4) b i wr (R5.out.keeps kq) iq.2
      generalize refChain K b i = C at *
      have HP1 := Lib.hid P1
      have HP2 := Lib.hid P2
      clear P1 P2
      by_cases hle : i ≤ (n : Int)
      · have e1 : ∀ x : Int, (x != x) = false := by simp
        have e2 : ∀ x : Bool, (x != x) = false := by simp
        go_wp2_with (first | (go_at_call 15; refine HP1.out.mono ?_; rintro e w' ⟨rfl, rfl⟩; unfold optV) | (go_at_call 17; refine HP2.out.mono ?_; rintro e w6 ⟨v6, rfl, r6, k6, -⟩) | (go_at_call 16; refine (r_first _ C w6 r6).mono ?_; rintro e w' ⟨rfl, rfl⟩; unfold optV))
        go_roundw
        case rel => exact ⟨i + 1, by omega, by omega, rfl, kq.then k6⟩
        case measure => simp [intOf]; omega
      · have hd : decide (i ≤ (n : Int)) = false := by simpa using hle
        go_wp2_with (first | (go_at_call 18; refine (num_any _ _).mono ?_; rintro e w' ⟨rfl, rfl⟩) | (go_at_call 10; refine (works_true _).mono ?_; rintro e w7 ⟨rfl, k7⟩))
        go_ret
        exact LawEnd.of_keeps ((kw5.then kq).then k7)

end Go.Proofs.Yticlhaofmcajpaa
