/-
  The law on the limits of samples and sizes: its walk.
-/
import Derived.Test.YtogengangfohfaaGreatQ25
import Derived.Test.YtogengangfohfaaGreatQ19
namespace Go.Proofs.YtogengangfohfaaGreat
set_option linter.unusedVariables false
set_option linter.unusedSimpArgs false
set_option linter.unusedSectionVars false
open Go.RowKit

def nilsV (n : Nat) : Array Value := (List.replicate n (.slice none 0 0)).toArray
theorem make_nils (n : Nat) (hn : n ≤ 1000000) (w : World) : (Instr.makeSlice 22 (.int .i64 (n : Int)) (.int .i64 (n : Int))).run Tryz.prog w = .ok (.slice (some ⟨w.heap.size, 0, none⟩) n n) (w.alloc (.cells (nilsV n) 33)) := by
  obtain ⟨i0, hi, hz0, hz1, hz2⟩ := info_parts Tryz.infoSl
  have hr := run_make (P := Tryz.prog) w 22 33 i0 (.slice none 0 0) Tryz.underlying22 hi hz0 .i64 .i64 n n (by omega) (Int.le_refl _) (by rw [hz2]; omega) (by omega)
  simp only [Int.toNat_natCast] at hr
  rw [hr]
  have e : (madeCells (Value.slice none 0 0).cells (n * i0.size)) = nilsV n := by
    rw [hz1, Nat.mul_one]
    apply Array.toList_inj.1
    exact (toList_madeCells_one _ n).trans (by simp [nilsV])
  rw [e]
/-- The samples of the law: L zero bytes, then M - 1 empty ones. -/
def bndL (M L : Nat) : List (List Int) := (List.replicate M []).set 0 (List.replicate L 0)
theorem bnd_len (M L : Nat) : (bndL M L).length = M := by simp [bndL]
theorem bnd_mem {M L : Nat} {b : List Int} (h : b ∈ bndL M L) : b = [] ∨ b = List.replicate L 0 := by
  rcases List.mem_or_eq_of_mem_set h with h | h
  · exact .inl (List.eq_of_mem_replicate h)
  · exact .inr h
theorem bnd_byte {M L : Nat} : ∀ b ∈ bndL M L, ∀ x ∈ b, 0 ≤ x ∧ x ≤ 255 := fun b hb x hx => by
  rcases bnd_mem hb with rfl | rfl
  · cases hx
  · rw [List.eq_of_mem_replicate hx]; decide
theorem bnd_may {M L : Nat} (hM : 1 ≤ M) : mayL (bndL M L) ↔ M ≤ 1024 ∧ L ≤ 131072 := by
  constructor
  · rintro ⟨h1, h2⟩
    rw [bnd_len] at h1
    have h3 : List.replicate L 0 ∈ bndL M L := List.mem_of_getElem? (i := 0) (by
      unfold bndL
      rw [List.getElem?_set_self (by simp; omega)])
    have h4 := h2 _ h3
    simp only [List.length_replicate] at h4
    exact ⟨h1, h4⟩
  · rintro ⟨h1, h2⟩
    refine ⟨by rw [bnd_len]; exact h1, fun b hb => ?_⟩
    rcases bnd_mem hb with rfl | rfl
    · simp
    · simp only [List.length_replicate]; exact h2
theorem bnd_rd {w : World} {b g M L : Nat} (hb : Blk w b ((nilsV M).setIfInBounds 0 (.slice (some ⟨g, 0, none⟩) L L)) 33) (hr : RdI .u8 w (.slice (some ⟨g, 0, none⟩) L L) (List.replicate L 0)) : RdL .u8 w (.slice (some ⟨b, 0, none⟩) M M) (bndL M L) := by
  refine ⟨_, _, _, rfl, (bnd_len M L).symm, fun h0 => ⟨Nat.le_refl _, b, 0, rfl, hb.lt, fun i l hl => ?_⟩⟩
  unfold bndL at hl
  rw [Nat.zero_add, hb.cell]
  cases i with
  | zero =>
    rw [List.getElem?_set_self (by simp; omega)] at hl
    obtain rfl := Option.some.inj hl
    exact ⟨_, by rw [Array.getElem?_setIfInBounds_self_of_lt (by simp [nilsV]; omega)], hr⟩
  | succ i =>
    rw [List.getElem?_set_ne (by omega), List.getElem?_replicate] at hl
    split at hl
    · obtain rfl := Option.some.inj hl
      refine ⟨.slice none 0 0, ?_, rdI_nil⟩
      rw [Array.getElem?_setIfInBounds_ne (by omega)]
      unfold nilsV
      rw [List.getElem?_toArray, List.getElem?_replicate, if_pos (by assumption)]
    · cases hl

set_option maxRecDepth 100000 in
set_option maxHeartbeats 8000000 in
theorem law_tbounds (many long size : Int) (w : World) :
    Calls Tryz.prog 7 #[.int .i64 many, .int .i64 long, .int .i64 size] w (LawEnd w) := by
  by_cases hbad : many < 1 ∨ 1030 < many ∨ long < 0 ∨ 131080 < long
  · rcases hbad with h1 | h1 | h1 | h1
    all_goals
      go_enter Tryz.func7, Tryz.ntmps7
      go_wp2_with (go_at_call 11; refine (works_true _).mono ?_; rintro e w5 ⟨rfl, kk⟩)
      all_goals
        go_ret
        exact LawEnd.of_keeps kk
  · obtain ⟨M, rfl⟩ := Int.eq_ofNat_of_zero_le (show 0 ≤ many by omega)
    obtain ⟨L, rfl⟩ := Int.eq_ofNat_of_zero_le (show 0 ≤ long by omega)
    have hM1 : 1 ≤ M := by omega
    have hM2 : M ≤ 1030 := by omega
    have hL2 : L ≤ 131080 := by omega
    have d1 : decide ((M : Int) < 1) = false := decide_eq_false (by omega)
    have d2 : decide ((1030 : Int) < (M : Int)) = false := decide_eq_false (by omega)
    have d3 : decide ((L : Int) < 0) = false := decide_eq_false (by omega)
    have d4 : decide ((131080 : Int) < (L : Int)) = false := decide_eq_false (by omega)
    have h0M : (0 : Int) < (M : Int) := by omega
    have mk1 := make_nils M (by omega)
    have mk2 := make_bytes L (by omega)
    clear hbad
    have e0 : ((w.alloc (.cells (nilsV M) 33)).alloc (.cells (zerosB L) 5)).cell? ⟨w.heap.size, 0, none⟩ = some (.slice none 0 0) := by
      have b0 := (Blk.new w (nilsV M) 33).alloc (.cells (zerosB L) 5)
      rw [b0.cell]
      unfold nilsV
      rw [List.getElem?_toArray, List.getElem?_replicate, if_pos (by omega)]
    have f0 : ((w.alloc (.cells (nilsV M) 33)).alloc (.cells (zerosB L) 5)).frozen? ⟨w.heap.size, 0, none⟩ = false := ((Blk.new w (nilsV M) 33).alloc (.cells (zerosB L) 5)).frozen 0
    have b3 := (Blk.new w ((nilsV M).setIfInBounds 0 (.slice (some ⟨w.heap.size + 1, 0, none⟩) L L)) 33).alloc (.cells (zerosB L) 5)
    have r3 := rdI_zeros L (w.alloc (.cells ((nilsV M).setIfInBounds 0 (.slice (some ⟨w.heap.size + 1, 0, none⟩) L L)) 33))
    simp only [World.size_alloc] at r3
    have RL := Lib.hid (bnd_rd b3 r3)
    have K3 : Hid (Keeps w ((w.alloc (.cells ((nilsV M).setIfInBounds 0 (.slice (some ⟨w.heap.size + 1, 0, none⟩) L L)) 33)).alloc (.cells (zerosB L) 5)) []) := ((Keeps.refl w []).alloc _).alloc _
    clear b3 r3
    have HMY := Lib.hid (bnd_may (L := L) hM1)
    have HLN : Hid ((bndL M L).length ≤ 1000000000) := by show _ ≤ _; rw [bnd_len]; omega
    have hcase : 1024 < M ∨ (M ≤ 1024 ∧ 131072 < L) ∨ (M ≤ 1024 ∧ L ≤ 131072) := by omega
    have hsize : size < 8 ∨ 134217728 < size ∨ (8 ≤ size ∧ size ≤ 134217728) := by omega
    rcases hcase with h1 | ⟨h1, h2⟩ | ⟨h1, h2⟩
    · have dM : (1024 : Int) < (M : Int) := by omega
      have HNM : Hid (¬ mayL (bndL M L)) := fun h => by have := HMY.out.1 h; omega
      have HBD : Hid (badN (bndL M L) = 2) := by show _ = _; unfold badN; rw [if_neg HNM.out]
      rcases hsize with g | g | ⟨g, g'⟩
      · have dS : size < 8 := g
        have HNO : Hid (¬ (mayL (bndL M L) ∧ 8 ≤ size ∧ size ≤ 134217728)) := fun h => by omega
        clear hM1 hM2 hL2 h1 g 
        go_enter Tryz.func7, Tryz.ntmps7
        go_wp2_with fail
        generalize ((w.alloc (.cells ((nilsV M).setIfInBounds 0 (.slice (some ⟨w.heap.size + 1, 0, none⟩) L L)) 33)).alloc (.cells (zerosB L) 5)) = W3 at *
        refine (score_any _ _ [] (bndL M L) W3 rdI_nil (by simp) (by simp) RL.out bnd_byte (by have := HLN.out; omega)).mono ?_
        rintro e w4 ⟨rfl, k4⟩
        rw [HBD.out]
        generalize scoreN [] (bndL M L) = SC at *
        go_wp2_with fail
        refine (seg_any _ (bndL M L) w4 (RL.out.keeps k4) (by have := HLN.out; omega)).mono ?_
        rintro e w5 h5
        obtain ⟨v5, rfl, r5, k5⟩ := h5.all
        rw [HBD.out]
        obtain ⟨a5, n5, c5, rfl, -, -⟩ := r5.form
        have RL5 := Lib.hid ((RL.out.keeps k4).keeps k5)
        have K5 := Lib.hid ((K3.out.then k4).then k5)
        clear r5 h5 k4 k5 RL K3 HBD
        go_wp2_with (go_at_call 16; refine (num_any _ _).mono ?_; rintro e w5 ⟨rfl, rfl⟩)
        refine (cont_bad _ (bndL M L) size w5 RL5.out (by have := HLN.out; omega) (HNO.out)).mono ?_
        rintro e w6 ⟨rfl, k6⟩
        go_wp2_with fail
        refine (train_bad _ (bndL M L) size w6 (RL5.out.keeps k6) (by have := HLN.out; omega) (HNO.out)).mono ?_
        rintro e w7 ⟨rfl, k7⟩
        have K7 := Lib.hid (((K5.out.then k6).then k7).alloc (.cells zero12 56))
        clear k6 k7
        go_wp2_with (first
          | (go_at_call 16; refine (num_any _ _).mono ?_; rintro e w5 ⟨rfl, rfl⟩)
          | (go_at_call 11; refine (works_true _).mono ?_; rintro e w9 ⟨rfl, kk⟩))
        go_ret
        exact LawEnd.of_keeps (K7.out.then kk)
      · have dS : decide (size < 8) = false := decide_eq_false (by omega)
        have dT : (134217728 : Int) < size := g
        have HNO : Hid (¬ (mayL (bndL M L) ∧ 8 ≤ size ∧ size ≤ 134217728)) := fun h => by omega
        clear hM1 hM2 hL2 h1 g 
        go_enter Tryz.func7, Tryz.ntmps7
        go_wp2_with fail
        generalize ((w.alloc (.cells ((nilsV M).setIfInBounds 0 (.slice (some ⟨w.heap.size + 1, 0, none⟩) L L)) 33)).alloc (.cells (zerosB L) 5)) = W3 at *
        refine (score_any _ _ [] (bndL M L) W3 rdI_nil (by simp) (by simp) RL.out bnd_byte (by have := HLN.out; omega)).mono ?_
        rintro e w4 ⟨rfl, k4⟩
        rw [HBD.out]
        generalize scoreN [] (bndL M L) = SC at *
        go_wp2_with fail
        refine (seg_any _ (bndL M L) w4 (RL.out.keeps k4) (by have := HLN.out; omega)).mono ?_
        rintro e w5 h5
        obtain ⟨v5, rfl, r5, k5⟩ := h5.all
        rw [HBD.out]
        obtain ⟨a5, n5, c5, rfl, -, -⟩ := r5.form
        have RL5 := Lib.hid ((RL.out.keeps k4).keeps k5)
        have K5 := Lib.hid ((K3.out.then k4).then k5)
        clear r5 h5 k4 k5 RL K3 HBD
        go_wp2_with (go_at_call 16; refine (num_any _ _).mono ?_; rintro e w5 ⟨rfl, rfl⟩)
        refine (cont_bad _ (bndL M L) size w5 RL5.out (by have := HLN.out; omega) (HNO.out)).mono ?_
        rintro e w6 ⟨rfl, k6⟩
        go_wp2_with fail
        refine (train_bad _ (bndL M L) size w6 (RL5.out.keeps k6) (by have := HLN.out; omega) (HNO.out)).mono ?_
        rintro e w7 ⟨rfl, k7⟩
        have K7 := Lib.hid (((K5.out.then k6).then k7).alloc (.cells zero12 56))
        clear k6 k7
        go_wp2_with (first
          | (go_at_call 16; refine (num_any _ _).mono ?_; rintro e w5 ⟨rfl, rfl⟩)
          | (go_at_call 11; refine (works_true _).mono ?_; rintro e w9 ⟨rfl, kk⟩))
        go_ret
        exact LawEnd.of_keeps (K7.out.then kk)
      · have dS : decide (size < 8) = false := decide_eq_false (by omega)
        have dT : decide ((134217728 : Int) < size) = false := decide_eq_false (by omega)
        have HNO : Hid (¬ (mayL (bndL M L) ∧ 8 ≤ size ∧ size ≤ 134217728)) := fun h => HNM.out h.1
        clear hM1 hM2 hL2 h1 g g'
        go_enter Tryz.func7, Tryz.ntmps7
        go_wp2_with fail
        generalize ((w.alloc (.cells ((nilsV M).setIfInBounds 0 (.slice (some ⟨w.heap.size + 1, 0, none⟩) L L)) 33)).alloc (.cells (zerosB L) 5)) = W3 at *
        refine (score_any _ _ [] (bndL M L) W3 rdI_nil (by simp) (by simp) RL.out bnd_byte (by have := HLN.out; omega)).mono ?_
        rintro e w4 ⟨rfl, k4⟩
        rw [HBD.out]
        generalize scoreN [] (bndL M L) = SC at *
        go_wp2_with fail
        refine (seg_any _ (bndL M L) w4 (RL.out.keeps k4) (by have := HLN.out; omega)).mono ?_
        rintro e w5 h5
        obtain ⟨v5, rfl, r5, k5⟩ := h5.all
        rw [HBD.out]
        obtain ⟨a5, n5, c5, rfl, -, -⟩ := r5.form
        have RL5 := Lib.hid ((RL.out.keeps k4).keeps k5)
        have K5 := Lib.hid ((K3.out.then k4).then k5)
        clear r5 h5 k4 k5 RL K3 HBD
        go_wp2_with (go_at_call 16; refine (num_any _ _).mono ?_; rintro e w5 ⟨rfl, rfl⟩)
        refine (cont_bad _ (bndL M L) size w5 RL5.out (by have := HLN.out; omega) (HNO.out)).mono ?_
        rintro e w6 ⟨rfl, k6⟩
        go_wp2_with fail
        refine (ctx_bad _ _ (bndL M L) w6 (RL5.out.keeps k6) (by have := HLN.out; omega) (HNM.out)).mono ?_
        rintro e w7 ⟨rfl, k7⟩
        have RL7 := Lib.hid (((RL5.out.keeps k6).keeps k7).keeps ((Keeps.refl w7 []).alloc (.cells zero10 54)))
        have K7 := Lib.hid (((K5.out.then k6).then k7).alloc (.cells zero10 54))
        clear k6 k7
        go_wp2_with fail
        refine (train_bad _ (bndL M L) size _ RL7.out (by have := HLN.out; omega) (HNO.out)).mono ?_
        rintro e w8 ⟨rfl, k8⟩
        have K8 := Lib.hid ((K7.out.then k8).alloc (.cells zero12 56))
        clear k8
        go_wp2_with (first
          | (go_at_call 16; refine (num_any _ _).mono ?_; rintro e w5 ⟨rfl, rfl⟩)
          | (go_at_call 11; refine (works_true _).mono ?_; rintro e w9 ⟨rfl, kk⟩))
        go_ret
        exact LawEnd.of_keeps (K8.out.then kk)
    · have dM : decide ((1024 : Int) < (M : Int)) = false := decide_eq_false (by omega)
      have dL : (131072 : Int) < (L : Int) := by omega
      have HNM : Hid (¬ mayL (bndL M L)) := fun h => by have := HMY.out.1 h; omega
      have HBD : Hid (badN (bndL M L) = 2) := by show _ = _; unfold badN; rw [if_neg HNM.out]
      rcases hsize with g | g | ⟨g, g'⟩
      · have dS : size < 8 := g
        have HNO : Hid (¬ (mayL (bndL M L) ∧ 8 ≤ size ∧ size ≤ 134217728)) := fun h => by omega
        clear hM1 hM2 hL2 h1 h2 g 
        go_enter Tryz.func7, Tryz.ntmps7
        go_wp2_with fail
        generalize ((w.alloc (.cells ((nilsV M).setIfInBounds 0 (.slice (some ⟨w.heap.size + 1, 0, none⟩) L L)) 33)).alloc (.cells (zerosB L) 5)) = W3 at *
        refine (score_any _ _ [] (bndL M L) W3 rdI_nil (by simp) (by simp) RL.out bnd_byte (by have := HLN.out; omega)).mono ?_
        rintro e w4 ⟨rfl, k4⟩
        rw [HBD.out]
        generalize scoreN [] (bndL M L) = SC at *
        go_wp2_with fail
        refine (seg_any _ (bndL M L) w4 (RL.out.keeps k4) (by have := HLN.out; omega)).mono ?_
        rintro e w5 h5
        obtain ⟨v5, rfl, r5, k5⟩ := h5.all
        rw [HBD.out]
        obtain ⟨a5, n5, c5, rfl, -, -⟩ := r5.form
        have RL5 := Lib.hid ((RL.out.keeps k4).keeps k5)
        have K5 := Lib.hid ((K3.out.then k4).then k5)
        clear r5 h5 k4 k5 RL K3 HBD
        go_wp2_with (go_at_call 16; refine (num_any _ _).mono ?_; rintro e w5 ⟨rfl, rfl⟩)
        refine (cont_bad _ (bndL M L) size w5 RL5.out (by have := HLN.out; omega) (HNO.out)).mono ?_
        rintro e w6 ⟨rfl, k6⟩
        go_wp2_with fail
        refine (train_bad _ (bndL M L) size w6 (RL5.out.keeps k6) (by have := HLN.out; omega) (HNO.out)).mono ?_
        rintro e w7 ⟨rfl, k7⟩
        have K7 := Lib.hid (((K5.out.then k6).then k7).alloc (.cells zero12 56))
        clear k6 k7
        go_wp2_with (first
          | (go_at_call 16; refine (num_any _ _).mono ?_; rintro e w5 ⟨rfl, rfl⟩)
          | (go_at_call 11; refine (works_true _).mono ?_; rintro e w9 ⟨rfl, kk⟩))
        go_ret
        exact LawEnd.of_keeps (K7.out.then kk)
      · have dS : decide (size < 8) = false := decide_eq_false (by omega)
        have dT : (134217728 : Int) < size := g
        have HNO : Hid (¬ (mayL (bndL M L) ∧ 8 ≤ size ∧ size ≤ 134217728)) := fun h => by omega
        clear hM1 hM2 hL2 h1 h2 g 
        go_enter Tryz.func7, Tryz.ntmps7
        go_wp2_with fail
        generalize ((w.alloc (.cells ((nilsV M).setIfInBounds 0 (.slice (some ⟨w.heap.size + 1, 0, none⟩) L L)) 33)).alloc (.cells (zerosB L) 5)) = W3 at *
        refine (score_any _ _ [] (bndL M L) W3 rdI_nil (by simp) (by simp) RL.out bnd_byte (by have := HLN.out; omega)).mono ?_
        rintro e w4 ⟨rfl, k4⟩
        rw [HBD.out]
        generalize scoreN [] (bndL M L) = SC at *
        go_wp2_with fail
        refine (seg_any _ (bndL M L) w4 (RL.out.keeps k4) (by have := HLN.out; omega)).mono ?_
        rintro e w5 h5
        obtain ⟨v5, rfl, r5, k5⟩ := h5.all
        rw [HBD.out]
        obtain ⟨a5, n5, c5, rfl, -, -⟩ := r5.form
        have RL5 := Lib.hid ((RL.out.keeps k4).keeps k5)
        have K5 := Lib.hid ((K3.out.then k4).then k5)
        clear r5 h5 k4 k5 RL K3 HBD
        go_wp2_with (go_at_call 16; refine (num_any _ _).mono ?_; rintro e w5 ⟨rfl, rfl⟩)
        refine (cont_bad _ (bndL M L) size w5 RL5.out (by have := HLN.out; omega) (HNO.out)).mono ?_
        rintro e w6 ⟨rfl, k6⟩
        go_wp2_with fail
        refine (train_bad _ (bndL M L) size w6 (RL5.out.keeps k6) (by have := HLN.out; omega) (HNO.out)).mono ?_
        rintro e w7 ⟨rfl, k7⟩
        have K7 := Lib.hid (((K5.out.then k6).then k7).alloc (.cells zero12 56))
        clear k6 k7
        go_wp2_with (first
          | (go_at_call 16; refine (num_any _ _).mono ?_; rintro e w5 ⟨rfl, rfl⟩)
          | (go_at_call 11; refine (works_true _).mono ?_; rintro e w9 ⟨rfl, kk⟩))
        go_ret
        exact LawEnd.of_keeps (K7.out.then kk)
      · have dS : decide (size < 8) = false := decide_eq_false (by omega)
        have dT : decide ((134217728 : Int) < size) = false := decide_eq_false (by omega)
        have HNO : Hid (¬ (mayL (bndL M L) ∧ 8 ≤ size ∧ size ≤ 134217728)) := fun h => HNM.out h.1
        clear hM1 hM2 hL2 h1 h2 g g'
        go_enter Tryz.func7, Tryz.ntmps7
        go_wp2_with fail
        generalize ((w.alloc (.cells ((nilsV M).setIfInBounds 0 (.slice (some ⟨w.heap.size + 1, 0, none⟩) L L)) 33)).alloc (.cells (zerosB L) 5)) = W3 at *
        refine (score_any _ _ [] (bndL M L) W3 rdI_nil (by simp) (by simp) RL.out bnd_byte (by have := HLN.out; omega)).mono ?_
        rintro e w4 ⟨rfl, k4⟩
        rw [HBD.out]
        generalize scoreN [] (bndL M L) = SC at *
        go_wp2_with fail
        refine (seg_any _ (bndL M L) w4 (RL.out.keeps k4) (by have := HLN.out; omega)).mono ?_
        rintro e w5 h5
        obtain ⟨v5, rfl, r5, k5⟩ := h5.all
        rw [HBD.out]
        obtain ⟨a5, n5, c5, rfl, -, -⟩ := r5.form
        have RL5 := Lib.hid ((RL.out.keeps k4).keeps k5)
        have K5 := Lib.hid ((K3.out.then k4).then k5)
        clear r5 h5 k4 k5 RL K3 HBD
        go_wp2_with (go_at_call 16; refine (num_any _ _).mono ?_; rintro e w5 ⟨rfl, rfl⟩)
        refine (cont_bad _ (bndL M L) size w5 RL5.out (by have := HLN.out; omega) (HNO.out)).mono ?_
        rintro e w6 ⟨rfl, k6⟩
        go_wp2_with fail
        refine (ctx_bad _ _ (bndL M L) w6 (RL5.out.keeps k6) (by have := HLN.out; omega) (HNM.out)).mono ?_
        rintro e w7 ⟨rfl, k7⟩
        have RL7 := Lib.hid (((RL5.out.keeps k6).keeps k7).keeps ((Keeps.refl w7 []).alloc (.cells zero10 54)))
        have K7 := Lib.hid (((K5.out.then k6).then k7).alloc (.cells zero10 54))
        clear k6 k7
        go_wp2_with fail
        refine (train_bad _ (bndL M L) size _ RL7.out (by have := HLN.out; omega) (HNO.out)).mono ?_
        rintro e w8 ⟨rfl, k8⟩
        have K8 := Lib.hid ((K7.out.then k8).alloc (.cells zero12 56))
        clear k8
        go_wp2_with (first
          | (go_at_call 16; refine (num_any _ _).mono ?_; rintro e w5 ⟨rfl, rfl⟩)
          | (go_at_call 11; refine (works_true _).mono ?_; rintro e w9 ⟨rfl, kk⟩))
        go_ret
        exact LawEnd.of_keeps (K8.out.then kk)
    · have dM : decide ((1024 : Int) < (M : Int)) = false := decide_eq_false (by omega)
      have dL : decide ((131072 : Int) < (L : Int)) = false := decide_eq_false (by omega)
      have HBD : Hid (badN (bndL M L) = 0) := by show _ = _; unfold badN; rw [if_pos (HMY.out.2 ⟨h1, h2⟩)]
      rcases hsize with g | g | ⟨g, g'⟩
      · have dS : size < 8 := g
        have HNO : Hid (¬ (mayL (bndL M L) ∧ 8 ≤ size ∧ size ≤ 134217728)) := fun h => by omega
        clear hM1 hM2 hL2 h1 h2 g 
        go_enter Tryz.func7, Tryz.ntmps7
        go_wp2_with fail
        generalize ((w.alloc (.cells ((nilsV M).setIfInBounds 0 (.slice (some ⟨w.heap.size + 1, 0, none⟩) L L)) 33)).alloc (.cells (zerosB L) 5)) = W3 at *
        refine (score_any _ _ [] (bndL M L) W3 rdI_nil (by simp) (by simp) RL.out bnd_byte (by have := HLN.out; omega)).mono ?_
        rintro e w4 ⟨rfl, k4⟩
        rw [HBD.out]
        generalize scoreN [] (bndL M L) = SC at *
        go_wp2_with fail
        refine (seg_any _ (bndL M L) w4 (RL.out.keeps k4) (by have := HLN.out; omega)).mono ?_
        rintro e w5 h5
        obtain ⟨v5, rfl, r5, k5⟩ := h5.all
        rw [HBD.out]
        obtain ⟨a5, n5, c5, rfl, -, -⟩ := r5.form
        have RL5 := Lib.hid ((RL.out.keeps k4).keeps k5)
        have K5 := Lib.hid ((K3.out.then k4).then k5)
        clear r5 h5 k4 k5 RL K3 HBD
        go_wp2_with (go_at_call 16; refine (num_any _ _).mono ?_; rintro e w5 ⟨rfl, rfl⟩)
        refine (cont_bad _ (bndL M L) size w5 RL5.out (by have := HLN.out; omega) (HNO.out)).mono ?_
        rintro e w6 ⟨rfl, k6⟩
        go_wp2_with fail
        refine (train_bad _ (bndL M L) size w6 (RL5.out.keeps k6) (by have := HLN.out; omega) (HNO.out)).mono ?_
        rintro e w7 ⟨rfl, k7⟩
        have K7 := Lib.hid (((K5.out.then k6).then k7).alloc (.cells zero12 56))
        clear k6 k7
        go_wp2_with (first
          | (go_at_call 16; refine (num_any _ _).mono ?_; rintro e w5 ⟨rfl, rfl⟩)
          | (go_at_call 11; refine (works_true _).mono ?_; rintro e w9 ⟨rfl, kk⟩))
        go_ret
        exact LawEnd.of_keeps (K7.out.then kk)
      · have dS : decide (size < 8) = false := decide_eq_false (by omega)
        have dT : (134217728 : Int) < size := g
        have HNO : Hid (¬ (mayL (bndL M L) ∧ 8 ≤ size ∧ size ≤ 134217728)) := fun h => by omega
        clear hM1 hM2 hL2 h1 h2 g 
        go_enter Tryz.func7, Tryz.ntmps7
        go_wp2_with fail
        generalize ((w.alloc (.cells ((nilsV M).setIfInBounds 0 (.slice (some ⟨w.heap.size + 1, 0, none⟩) L L)) 33)).alloc (.cells (zerosB L) 5)) = W3 at *
        refine (score_any _ _ [] (bndL M L) W3 rdI_nil (by simp) (by simp) RL.out bnd_byte (by have := HLN.out; omega)).mono ?_
        rintro e w4 ⟨rfl, k4⟩
        rw [HBD.out]
        generalize scoreN [] (bndL M L) = SC at *
        go_wp2_with fail
        refine (seg_any _ (bndL M L) w4 (RL.out.keeps k4) (by have := HLN.out; omega)).mono ?_
        rintro e w5 h5
        obtain ⟨v5, rfl, r5, k5⟩ := h5.all
        rw [HBD.out]
        obtain ⟨a5, n5, c5, rfl, -, -⟩ := r5.form
        have RL5 := Lib.hid ((RL.out.keeps k4).keeps k5)
        have K5 := Lib.hid ((K3.out.then k4).then k5)
        clear r5 h5 k4 k5 RL K3 HBD
        go_wp2_with (go_at_call 16; refine (num_any _ _).mono ?_; rintro e w5 ⟨rfl, rfl⟩)
        refine (cont_bad _ (bndL M L) size w5 RL5.out (by have := HLN.out; omega) (HNO.out)).mono ?_
        rintro e w6 ⟨rfl, k6⟩
        go_wp2_with fail
        refine (train_bad _ (bndL M L) size w6 (RL5.out.keeps k6) (by have := HLN.out; omega) (HNO.out)).mono ?_
        rintro e w7 ⟨rfl, k7⟩
        have K7 := Lib.hid (((K5.out.then k6).then k7).alloc (.cells zero12 56))
        clear k6 k7
        go_wp2_with (first
          | (go_at_call 16; refine (num_any _ _).mono ?_; rintro e w5 ⟨rfl, rfl⟩)
          | (go_at_call 11; refine (works_true _).mono ?_; rintro e w9 ⟨rfl, kk⟩))
        go_ret
        exact LawEnd.of_keeps (K7.out.then kk)
      · have dS : decide (size < 8) = false := decide_eq_false (by omega)
        have dT : decide ((134217728 : Int) < size) = false := decide_eq_false (by omega)
        clear hM1 hM2 hL2 h1 h2 g g'
        go_enter Tryz.func7, Tryz.ntmps7
        go_wp2_with fail
        generalize ((w.alloc (.cells ((nilsV M).setIfInBounds 0 (.slice (some ⟨w.heap.size + 1, 0, none⟩) L L)) 33)).alloc (.cells (zerosB L) 5)) = W3 at *
        refine (score_any _ _ [] (bndL M L) W3 rdI_nil (by simp) (by simp) RL.out bnd_byte (by have := HLN.out; omega)).mono ?_
        rintro e w4 ⟨rfl, k4⟩
        rw [HBD.out]
        generalize scoreN [] (bndL M L) = SC at *
        go_wp2_with fail
        refine (seg_any _ (bndL M L) w4 (RL.out.keeps k4) (by have := HLN.out; omega)).mono ?_
        rintro e w5 h5
        obtain ⟨v5, rfl, r5, k5⟩ := h5.all
        rw [HBD.out]
        obtain ⟨a5, n5, c5, rfl, -, -⟩ := r5.form
        have RL5 := Lib.hid ((RL.out.keeps k4).keeps k5)
        have K5 := Lib.hid ((K3.out.then k4).then k5)
        clear r5 h5 k4 k5 RL K3 HBD
        go_wp2_with (first
          | (go_at_call 16; refine (num_any _ _).mono ?_; rintro e w5 ⟨rfl, rfl⟩)
          | (go_at_call 11; refine (works_true _).mono ?_; rintro e w9 ⟨rfl, kk⟩))
        go_ret
        exact LawEnd.of_keeps (K5.out.then kk)


end Go.Proofs.YtogengangfohfaaGreat
