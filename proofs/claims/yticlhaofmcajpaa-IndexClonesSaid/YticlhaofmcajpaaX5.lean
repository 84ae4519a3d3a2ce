/-
  The law on clones: its walk.
-/
import Derived.Test.YticlhaofmcajpaaX3
namespace Go.Proofs.Yticlhaofmcajpaa
set_option linter.unusedVariables false
set_option linter.unusedSimpArgs false
set_option linter.unusedSectionVars false
open Go.RowKit

set_option maxRecDepth 100000 in
set_option maxHeartbeats 8000000 in
theorem law_clones (k : Int) (b o1 o2 kl : List Int) (at' : Int) (v v1 v2 vk : Value) (w : World) (hv : RdI .u8 w v b) (hb : ∀ x ∈ b, 0 ≤ x ∧ x ≤ 255) (hv1 : RdI .u8 w v1 o1) (hb1 : ∀ x ∈ o1, 0 ≤ x ∧ x ≤ 255) (hv2 : RdI .u8 w v2 o2) (hb2 : ∀ x ∈ o2, 0 ≤ x ∧ x ≤ 255) (hvk : RdI .u8 w vk kl) (hkb : ∀ x ∈ kl, 0 ≤ x ∧ x ≤ 255) :
    Calls Try.prog 9 #[.int .i64 k, v, v1, v2, .int .i64 at', vk] w (LawEnd w) := by
  obtain ⟨A0, n, cp0, rfl, hnl, -⟩ := hv.form
  obtain ⟨Ak, nk', ck, rfl, hnk, -⟩ := hvk.form
  obtain ⟨B1, m1, e1, rfl, hm1, -⟩ := hv1.form
  obtain ⟨B2, m2, e2, rfl, hm2, -⟩ := hv2.form
  obtain ⟨i0, hi0, hz0, hz1, hz2⟩ := info_parts Try.infoByte
  by_cases hbad : 100 < n ∨ 100 < m1 ∨ 100 < m2 ∨ 20 < nk' ∨ k < 1 ∨ 8 < k
  · clear hv hnl hb hvk hnk hkb hv1 hb1 hm1 hv2 hb2 hm2
    rcases hbad with h1 | h1 | h1 | h1 | h1 | h1
    all_goals
      go_enter Try.func9, Try.ntmps9
      go_wp2_with (go_at_call 10; refine (works_true _).mono ?_; rintro e w5 ⟨rfl, kk⟩)
      all_goals
        go_ret
        exact LawEnd.of_keeps kk
  · have h1 : ¬ 100 < n := by omega
    have h2 : ¬ k < 1 := by omega
    have h3 : ¬ 8 < k := by omega
    have d4 : decide ((20 : Int) < (nk' : Int)) = false := decide_eq_false (by omega)
    have d5 : decide ((100 : Int) < (m1 : Int)) = false := decide_eq_false (by omega)
    have d6 : decide ((100 : Int) < (m2 : Int)) = false := decide_eq_false (by omega)
    have hm13 : m1 ≤ 100 := by omega
    have hm23 : m2 ≤ 100 := by omega
    have HV1 := Lib.hid hv1
    have HB1 := Lib.hid hb1
    have HM1 := Lib.hid hm1
    have HV2 := Lib.hid hv2
    have HB2 := Lib.hid hb2
    have HM2 := Lib.hid hm2
    have HVK := Lib.hid hvk
    have HKB := Lib.hid hkb
    obtain ⟨K, rfl⟩ := Int.eq_ofNat_of_zero_le (show 0 ≤ k by omega)
    have hK1 : 1 ≤ K := by omega
    have hK8 : K ≤ 8 := by omega
    have d1 : decide ((100 : Int) < (n : Int)) = false := decide_eq_false (by omega)
    have d2 : decide ((K : Int) < 1) = false := decide_eq_false (by omega)
    have d3 : decide ((8 : Int) < (K : Int)) = false := decide_eq_false (by omega)
    have hn3 : n ≤ 100 := by omega
    have HV := Lib.hid hv
    have HB := Lib.hid hb
    have HN := Lib.hid hnl
    clear hv hb hnl hbad h1 h2 h3 hvk hkb hnk hv1 hb1 hm1 hv2 hb2 hm2
    go_enter Try.func9, Try.ntmps9
    go_wp2_with fail
    refine (new_yes K w hK1 hK8).mono ?_
    rintro e w1 ⟨p, S1, rfl, i1, l1, k1⟩
    go_wp2_with fail
    refine (r_new_yes K w1 hK1 hK8).mono ?_
    rintro e w2 ⟨rfl, k2⟩
    go_wp2_with fail
    have hs2 := k2.size
    have hs1 := k1.size
    refine (add_any p K [] b _ S1 _ ((i1.keep k2).keep ((Keeps.refl w2 []).alloc _)) ((HV.out.keeps (k1.then k2)).keeps ((Keeps.refl w2 []).alloc _)) HB.out (by have := HN.out; simp; omega)).mono ?_
    rintro e w3 ⟨rfl, S3, i3, l3, k3⟩
    rw [List.nil_append] at i3
    have kw3 : Keeps w w3 [] := ((k1.then k2).alloc _).trans k3 (fun x hx hlt => absurd (l1 x hx) (by omega))
    have bW := (Blk.new w2 #[.int .i64 (K : Int), .slice none 0 0] 29).keeps k3 (fun hm => by have := i1.lt _ hm; omega)
    have hl3 : ∀ x ∈ S3, x ≠ w2.heap.size := fun x hx he => by
      subst he
      rcases l3 _ hx with h | h
      · have := i1.lt _ h; omega
      · rw [World.size_alloc] at h; omega
    obtain ⟨g0, g1⟩ := (⟨bW.cell 0, bW.cell 1⟩ : _ ∧ _)
    go_wp2_with fail
    refine (r_add K (.slice none 0 0) _ [] b w3 RdI.nil (HV.out.keeps kw3) (by have := HN.out; simp; omega)).mono ?_
    rintro e w4 ⟨v4, rfl, r4, k4, hv4⟩
    rw [List.nil_append] at r4
    obtain ⟨A4, n4, c4, rfl, hn4, -⟩ := r4.form
    have HN4 := Lib.hid hn4
    clear hn4
    have bW4 := bW.keeps k4 (by simp)
    have i4 := i3.keep k4
    have lW4 := bW4.lt
    obtain ⟨h0, h1, f0, f1⟩ := (⟨bW4.cell 0, bW4.cell 1, bW4.frozen 0, bW4.frozen 1⟩ : _ ∧ _ ∧ _ ∧ _)
    have kw4 := kw3.then k4
    clear g0 g1
    have bW5 : Blk ((w4.setCell ⟨w2.heap.size, 0, none⟩ (.int .i64 (K : Int))).setCell ⟨w2.heap.size, 1, none⟩ (.slice A4 n4 c4)) w2.heap.size #[.int .i64 (K : Int), .slice A4 n4 c4] 29 := (bW4.set 0 _).set 1 _
    have k5 : Keeps w4 ((w4.setCell ⟨w2.heap.size, 0, none⟩ (.int .i64 (K : Int))).setCell ⟨w2.heap.size, 1, none⟩ (.slice A4 n4 c4)) [w2.heap.size] := ((Keeps.refl w4 _).setCell (.inr (by simp)) _).setCell (.inr (by simp)) _
    have i5 := i4.keeps k5 (fun x hx hm => hl3 x hx (List.mem_singleton.1 hm))
    have kw5 : Keeps w _ [] := kw4.trans k5 (fun x hx hlt => by have := List.mem_singleton.1 hx; omega)
    have r5 := r4.keepsS k5 (fun ad m cp he h0 hm => by have := hv4 ad m cp he; have := List.mem_singleton.1 hm; have := bW.lt; omega)
    have HL3 := Lib.hid hl3
    have HL1 := Lib.hid l1
    have H4 := Lib.hid hv4
    have I5 := Lib.hid i5
    have R5 := Lib.hid r5
    have hs3 := k3.size
    have hs4 := k4.size
    rw [World.size_alloc] at hs3
    have hS3 : ∀ x ∈ S3, w.heap.size ≤ x ∧ x < w3.heap.size ∧ x ≠ w2.heap.size := fun x hx => ⟨by
      rcases l3 _ hx with h | h
      · exact l1 _ h
      · rw [World.size_alloc] at h; omega, i3.lt x hx, hl3 x hx⟩
    have HS3 := Lib.hid hS3
    have H4 := Lib.hid hv4
    have lW2 := bW.lt
    clear hl3 l1 l3 hv4 i1 i3 i4 r4 k1 k2 k3 k4 kw3 kw4 k5 bW bW4 r5 i5 hS3
    go_wp2_with fail
    generalize ((w4.setCell ⟨w2.heap.size, 0, none⟩ (.int .i64 (K : Int))).setCell ⟨w2.heap.size, 1, none⟩ (.slice A4 n4 c4)) = w5 at *
    clear h0 h1 f0 f1
    have hsz5 : ∀ x ∈ S3, x < w5.heap.size := fun x hx => I5.out.lt x hx
    refine (clone_any p K b S3 w5 I5.out).mono ?_
    rintro e w6 ⟨o, SC, rfl, ic6, lc6, k6⟩
    have lcu : ∀ x ∈ SC, x < w6.heap.size := fun x hx => ic6.lt x hx
    have ip6 := I5.out.keep k6
    have hs6 := k6.size
    have l25 := bW5.lt
    go_wp2_with fail
    refine (add_any p K b o1 _ S3 w6 ip6 ((HV1.out.keeps kw5).keeps k6) HB1.out (by have := HN.out; have := HM1.out; omega)).mono ?_
    rintro e w7 ⟨rfl, S7, ip7, l7, k7⟩
    have hs7 := k7.size
    have ic7 := ic6.keeps k7 (fun x hx hm => by have := lc6 x hx; have := hsz5 x hm; omega)
    have kw7 : Keeps w w7 [] := (kw5.then k6).trans k7 (fun x hx hlt => by have := (HS3.out x hx).1; omega)
    go_wp2_with fail
    refine (add_any o K b o2 _ SC w7 ic7 (HV2.out.keeps kw7) HB2.out (by have := HN.out; have := HM2.out; omega)).mono ?_
    rintro e w8 ⟨rfl, S8, ic8, l8, k8⟩
    have ip8 := Lib.hid (ip7.keeps k8 (fun x hx hm => by
      have := lc6 x hm
      have := lcu x hm
      rcases l7 x hx with h | h
      · have := hsz5 x h; omega
      · omega))
    have kw8 : Keeps w w8 [] := kw7.trans k8 (fun x hx hlt => by have := lc6 x hx; have := kw5.size; omega)
    have bW8 := (((bW5.keeps k6 (by simp)).keeps k7 (fun hm => (HS3.out _ hm).2.2 rfl)).keeps k8 (fun hm => by have := lc6 _ hm; omega))
    have R8 := Lib.hid (((R5.out.keeps k6).keepsS k7 (fun ad m cp he h0 hm => by have := H4.out ad m cp he; have := (HS3.out _ hm).2.1; omega)).keepsS k8 (fun ad m cp he h0 hm => by
      have := lc6 _ hm
      obtain ⟨b', o', h5, h6, -⟩ := R5.out.addr (n := n4) (by cases he; exact h0)
      cases he
      cases h5
      simp only at this
      omega))
    have ic8' := Lib.hid ic8
    clear ip7 ip6 ic7 ic6 ic8 k6 k7 k8 l7 l8 lc6 lcu hsz5 kw7 R5 I5 bW5 kw5
    obtain ⟨h0, h1⟩ := (⟨bW8.cell 0, bW8.cell 1⟩ : _ ∧ _)
    go_wp2_with (go_at_call 18; refine (num_any _ _).mono ?_; rintro e w' ⟨rfl, rfl⟩)
    refine (r_add K (.slice A4 n4 c4) _ b o1 w8 R8.out (HV1.out.keeps kw8) (by have := HN.out; have := HM1.out; omega)).mono ?_
    rintro e w9 ⟨v9, rfl, r9, k9, -⟩
    have kw9 := kw8.then k9
    go_wp2_with fail
    refine (is_any p K (b ++ o1) kl v9 _ S7 _ _ w9 (ip8.out.keep k9) r9 (HVK.out.keeps kw9) HKB.out).mono ?_
    rintro e w10 ⟨rfl, k10⟩
    have k810 := k9.then k10
    have kw10 := kw9.then k10
    have bW10 := bW8.keeps k810 (by simp)
    clear h0 h1
    obtain ⟨h0, h1⟩ := (⟨bW10.cell 0, bW10.cell 1⟩ : _ ∧ _)
    go_wp2_with fail
    refine (r_add K (.slice A4 n4 c4) _ b o2 w10 (R8.out.keeps k810) (HV2.out.keeps kw10) (by have := HN.out; have := HM2.out; omega)).mono ?_
    rintro e w11 ⟨v11, rfl, r11, k11, -⟩
    have kw11 := kw10.then k11
    go_wp2_with fail
    refine (is_any o K (b ++ o2) kl v11 _ S8 _ _ w11 ((ic8'.out.keep k810).keep k11) r11 (HVK.out.keeps kw11) HKB.out).mono ?_
    rintro e w12 ⟨rfl, k12⟩
    go_wp2_with fail
    refine (works_true _).mono ?_
    rintro e w13 ⟨rfl, k13⟩
    go_wp2_with fail
    go_ret
    exact LawEnd.of_keeps ((kw11.then k12).then k13)

end Go.Proofs.Yticlhaofmcajpaa
