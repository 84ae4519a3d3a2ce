/-
  The law on Find and Count: its walk.
-/
import Derived.Test.YticlhaofmcajpaaX3
namespace Go.Proofs.Yticlhaofmcajpaa
set_option linter.unusedVariables false
set_option linter.unusedSimpArgs false
set_option linter.unusedSectionVars false
open Go.RowKit

set_option maxRecDepth 100000 in
set_option maxHeartbeats 4000000 in
theorem law_finds (k : Int) (b kl : List Int) (v vk : Value) (w : World) (hv : RdI .u8 w v b) (hb : ∀ x ∈ b, 0 ≤ x ∧ x ≤ 255) (hvk : RdI .u8 w vk kl) (hkb : ∀ x ∈ kl, 0 ≤ x ∧ x ≤ 255) :
    Calls Try.prog 8 #[.int .i64 k, v, vk] w (LawEnd w) := by
  obtain ⟨A0, n, cp0, rfl, hnl, -⟩ := hv.form
  obtain ⟨Ak, nk', ck, rfl, hnk, -⟩ := hvk.form
  obtain ⟨i0, hi0, hz0, hz1, hz2⟩ := info_parts Try.infoByte
  by_cases hbad : 300 < n ∨ 20 < nk' ∨ k < 1 ∨ 8 < k
  · clear hv hnl hb hvk hnk hkb
    rcases hbad with h1 | h1 | h1 | h1
    all_goals
      go_enter Try.func8, Try.ntmps8
      go_wp2_with (go_at_call 10; refine (works_true _).mono ?_; rintro e w5 ⟨rfl, kk⟩)
      all_goals
        go_ret
        exact LawEnd.of_keeps kk
  · have h1 : ¬ 300 < n := by omega
    have h2 : ¬ k < 1 := by omega
    have h3 : ¬ 8 < k := by omega
    have d4 : decide ((20 : Int) < (nk' : Int)) = false := decide_eq_false (by omega)
    have HVK := Lib.hid hvk
    have HKB := Lib.hid hkb
    obtain ⟨K, rfl⟩ := Int.eq_ofNat_of_zero_le (show 0 ≤ k by omega)
    have hK1 : 1 ≤ K := by omega
    have hK8 : K ≤ 8 := by omega
    have d1 : decide ((300 : Int) < (n : Int)) = false := decide_eq_false (by omega)
    have d2 : decide ((K : Int) < 1) = false := decide_eq_false (by omega)
    have d3 : decide ((8 : Int) < (K : Int)) = false := decide_eq_false (by omega)
    have hn3 : n ≤ 300 := by omega
    have HV := Lib.hid hv
    have HB := Lib.hid hb
    have HN := Lib.hid hnl
    clear hv hb hnl hbad h1 h2 h3 hvk hkb hnk
    go_enter Try.func8, Try.ntmps8
    go_wp2_with fail
    refine (new_yes K w hK1 hK8).mono ?_
    rintro e w1 ⟨p, S1, rfl, i1, l1, k1⟩
    go_wp2_with fail
    refine (r_new_yes K w1 hK1 hK8).mono ?_
    rintro e w2 ⟨rfl, k2⟩
    go_wp2_with fail
    have hs2 := k2.size
    have hs1 := k1.size
    refine (add_any p K [] b _ S1 _ ((i1.keep k2).keep ((Keeps.refl w2 []).alloc _)) ((HV.out.keeps (k1.then k2)).keeps ((Keeps.refl w2 []).alloc _)) HB.out (by have := HN.out; simp; omega)).mono ?_
    rintro e w3 ⟨rfl, S3, i3, l3, k3⟩
    rw [List.nil_append] at i3
    have kw3 : Keeps w w3 [] := ((k1.then k2).alloc _).trans k3 (fun x hx hlt => absurd (l1 x hx) (by omega))
    have bW := (Blk.new w2 #[.int .i64 (K : Int), .slice none 0 0] 29).keeps k3 (fun hm => by have := i1.lt _ hm; omega)
    have hl3 : ∀ x ∈ S3, x ≠ w2.heap.size := fun x hx he => by
      subst he
      rcases l3 _ hx with h | h
      · have := i1.lt _ h; omega
      · rw [World.size_alloc] at h; omega
    obtain ⟨g0, g1⟩ := (⟨bW.cell 0, bW.cell 1⟩ : _ ∧ _)
    go_wp2_with fail
    refine (r_add K (.slice none 0 0) _ [] b w3 RdI.nil (HV.out.keeps kw3) (by have := HN.out; simp; omega)).mono ?_
    rintro e w4 ⟨v4, rfl, r4, k4, hv4⟩
    rw [List.nil_append] at r4
    obtain ⟨A4, n4, c4, rfl, hn4, -⟩ := r4.form
    have HN4 := Lib.hid hn4
    clear hn4
    have bW4 := bW.keeps k4 (by simp)
    have i4 := i3.keep k4
    have lW4 := bW4.lt
    obtain ⟨h0, h1, f0, f1⟩ := (⟨bW4.cell 0, bW4.cell 1, bW4.frozen 0, bW4.frozen 1⟩ : _ ∧ _ ∧ _ ∧ _)
    have kw4 := kw3.then k4
    clear g0 g1
    have bW5 : Blk ((w4.setCell ⟨w2.heap.size, 0, none⟩ (.int .i64 (K : Int))).setCell ⟨w2.heap.size, 1, none⟩ (.slice A4 n4 c4)) w2.heap.size #[.int .i64 (K : Int), .slice A4 n4 c4] 29 := (bW4.set 0 _).set 1 _
    have k5 : Keeps w4 ((w4.setCell ⟨w2.heap.size, 0, none⟩ (.int .i64 (K : Int))).setCell ⟨w2.heap.size, 1, none⟩ (.slice A4 n4 c4)) [w2.heap.size] := ((Keeps.refl w4 _).setCell (.inr (by simp)) _).setCell (.inr (by simp)) _
    have i5 := i4.keeps k5 (fun x hx hm => hl3 x hx (List.mem_singleton.1 hm))
    have kw5 : Keeps w _ [] := kw4.trans k5 (fun x hx hlt => by have := List.mem_singleton.1 hx; omega)
    have r5 := r4.keepsS k5 (fun ad m cp he h0 hm => by have := hv4 ad m cp he; have := List.mem_singleton.1 hm; have := bW.lt; omega)
    have HL3 := Lib.hid hl3
    have HL1 := Lib.hid l1
    have H4 := Lib.hid hv4
    have I5 := Lib.hid i5
    have R5 := Lib.hid r5
    clear hl3 l1 l3 hv4 i1 i3 i4 r4 k1 k2 k3 k4 kw3 kw4 k5 bW bW4 hs1 hs2 r5 i5
    go_wp2_with (go_at_call 18; refine (num_any _ _).mono ?_; rintro e w' ⟨rfl, rfl⟩)
    generalize ((w4.setCell ⟨w2.heap.size, 0, none⟩ (.int .i64 (K : Int))).setCell ⟨w2.heap.size, 1, none⟩ (.slice A4 n4 c4)) = w5 at *
    refine (is_any p K b kl (.slice A4 n4 c4) (.slice Ak nk' ck) S3 0 0 w5 I5.out R5.out (HVK.out.keeps kw5) HKB.out).mono ?_
    rintro e w6 ⟨rfl, k6⟩
    have bW6 := bW5.keeps k6 (by simp)
    have I6 := Lib.hid (I5.out.keep k6)
    have R6 := Lib.hid (R5.out.keeps k6)
    have kw6 := kw5.then k6
    clear I5 R5 bW5 kw5
    go_wp2_with fail
    go_loopw [12] (fun s12 wr => ∃ i : Nat, i ≤ n + 1 ∧ s12 = .int .i64 i ∧ Keeps w6 wr []) (fun s12 _ => (n + 1 - (intOf s12).toNat))
    case atStart => exact ⟨0, by omega, rfl, Keeps.refl _ _⟩
    case round =>
      obtain ⟨i, hi, rfl, kq⟩ := hrel
      by_cases hle : i + K ≤ n
      · have iq := Lib.hid (I6.out.keep kq)
        have rq := Lib.hid (R6.out.keeps kq)
        have bq := bW6.keeps kq (by simp)
        obtain ⟨h0, h1⟩ := (⟨bq.cell 0, bq.cell 1⟩ : _ ∧ _)
        have lq := bq.lt
        have kv := kw6.then kq
        obtain ⟨g, o, rfl, hg, -⟩ := HV.out.addr (n := n) (by omega)
        have hcap := HV.out.cap
        have hpc := Lib.hid ((HV.out.keeps kv).piece (p := i) (q := K) hle (cp0 - i) (by omega))
        have hlb : Hid (∀ x ∈ (b.drop i).take K, 0 ≤ x ∧ x ≤ 255) := fun x hx => HB.out x (List.mem_of_mem_drop (List.mem_of_mem_take hx))
        have z1 : (i : Int) + (K : Int) ≤ (n : Int) := by omega
        have z2 : (0 : Int) ≤ (i : Int) := Int.natCast_nonneg _
        have z3 : (i : Int) ≤ (i : Int) + (K : Int) := by omega
        have z4 : (i : Int) + (K : Int) ≤ (cp0 : Int) := by omega
        have z5 : ¬ cp0 = i := by omega
        have z6 : i + K - i = K := by omega
        have z7 : i ≤ 300 := by omega
        have z8 : i + K ≤ cp0 := by omega
        have z9 : ((i : Int) + (K : Int)).toNat = i + K := by omega
        have hwr : IntKind.i64.wrap ((i : Int) + (K : Int)) = (i : Int) + (K : Int) := IntWalk.i64_in _ (by omega)
        clear hle
        go_wp2_with fail
        refine wp_region_held_drew (S := (fun w' => w'.cell? ⟨w2.heap.size, 0, none⟩ = some (.int .i64 (K : Int)) ∧ w'.cell? ⟨w2.heap.size, 1, none⟩ = some (.slice A4 n4 c4) ∧ Keeps wr w' [])) (by kernel_rfl) (holdS2 h0 h1 lq lq ((Keeps.refl wr []).drew)) (fun hHeld => ?_)
        refine takeL (i := 0) (v := ?v0) rfl (by kernel_rfl) (by kernel_rfl) (by kernel_rfl) (fun _ _ _ h => h) (by rfl) ?hy0 (by assumption) ?_
        case hy0 => (intro w hSw; (try dsimp only at hSw); go_simp; (try with_reducible rfl))
        try simp only [Act.put, List.setIfInBounds_toArray, List.set_cons_zero, List.set_cons_succ]
        refine takeL (i := 1) (v := ?v1) rfl (by kernel_rfl) (by kernel_rfl) (by kernel_rfl) (fun _ _ _ h => h) (by rfl) ?hy1 (by assumption) ?_
        case hy1 => (intro w hSw; (try dsimp only at hSw); go_simp; (try with_reducible rfl))
        try simp only [Act.put, List.setIfInBounds_toArray, List.set_cons_zero, List.set_cons_succ]
        refine takeL (i := 2) (v := ?v2) rfl (by kernel_rfl) (by kernel_rfl) (by kernel_rfl) (fun _ _ _ h => h) (by rfl) ?hy2 (by assumption) ?_
        case hy2 => (intro w hSw; (try dsimp only at hSw); go_simp; (try with_reducible rfl))
        try simp only [Act.put, List.setIfInBounds_toArray, List.set_cons_zero, List.set_cons_succ]
        refine takeL (i := 3) (v := ?v3) rfl (by kernel_rfl) (by kernel_rfl) (by kernel_rfl) (fun _ _ _ h => h) (by rfl) ?hy3 (by assumption) ?_
        case hy3 => (intro w hSw; (try dsimp only at hSw); go_simp; (try with_reducible rfl))
        try simp only [Act.put, List.setIfInBounds_toArray, List.set_cons_zero, List.set_cons_succ]
        refine takeL (i := 4) (v := ?v4) rfl (by kernel_rfl) (by kernel_rfl) (by kernel_rfl) (fun _ _ _ h => h) (by rfl) ?hy4 (by assumption) ?_
        case hy4 => (intro w hSw; (try dsimp only at hSw); go_simp; (try with_reducible rfl))
        try simp only [Act.put, List.setIfInBounds_toArray, List.set_cons_zero, List.set_cons_succ]
        refine takeL (i := 5) (v := ?v5) rfl (by kernel_rfl) (by kernel_rfl) (by kernel_rfl) (fun _ _ _ h => h) (by rfl) ?hy5 (by assumption) ?_
        case hy5 => (intro w hSw; (try dsimp only at hSw); go_simp; (try with_reducible rfl))
        try simp only [Act.put, List.setIfInBounds_toArray, List.set_cons_zero, List.set_cons_succ]
        refine takeL (i := 6) (v := ?v6) rfl (by kernel_rfl) (by kernel_rfl) (by kernel_rfl) (fun _ _ _ h => h) (by rfl) ?hy6 (by assumption) ?_
        case hy6 => (intro w hSw; (try dsimp only at hSw); go_simp; (try with_reducible rfl))
        try simp only [Act.put, List.setIfInBounds_toArray, List.set_cons_zero, List.set_cons_succ]
        refine takeL (i := 7) (v := ?v7) rfl (by kernel_rfl) (by kernel_rfl) (by kernel_rfl) (fun _ _ _ h => h) (by rfl) ?hy7 (by assumption) ?_
        case hy7 => (intro w hSw; (try dsimp only at hSw); go_simp; (try with_reducible rfl))
        try simp only [Act.put, List.setIfInBounds_toArray, List.set_cons_zero, List.set_cons_succ]
        refine takeL (i := 8) (v := ?v8) rfl (by kernel_rfl) (by kernel_rfl) (by kernel_rfl) (fun _ _ _ h => h) (by rfl) ?hy8 (by assumption) ?_
        case hy8 => (intro w hSw; (try dsimp only at hSw); go_simp; (try with_reducible rfl))
        try simp only [Act.put, List.setIfInBounds_toArray, List.set_cons_zero, List.set_cons_succ]
        refine takeL (i := 9) (v := ?v9) rfl (by kernel_rfl) (by kernel_rfl) (by kernel_rfl) (fun _ _ _ h => h) (by rfl) ?hy9 (by assumption) ?_
        case hy9 => (intro w hSw; (try dsimp only at hSw); go_simp; (try with_reducible rfl))
        try simp only [Act.put, List.setIfInBounds_toArray, List.set_cons_zero, List.set_cons_succ]
        refine takeL (i := 10) (v := ?v10) rfl (by kernel_rfl) (by kernel_rfl) (by kernel_rfl) (fun _ _ _ h => h) (by rfl) ?hy10 (by assumption) ?_
        case hy10 => (intro w hSw; (try dsimp only at hSw); go_simp; (try with_reducible rfl))
        try simp only [Act.put, List.setIfInBounds_toArray, List.set_cons_zero, List.set_cons_succ]
        refine takeL (i := 11) (v := ?v11) rfl (by kernel_rfl) (by kernel_rfl) (by kernel_rfl) (fun _ _ _ h => h) (by rfl) ?hy11 (by assumption) ?_
        case hy11 => (intro w hSw; (try dsimp only at hSw); go_simp; (try with_reducible rfl))
        try simp only [Act.put, List.setIfInBounds_toArray, List.set_cons_zero, List.set_cons_succ]
        refine callL (i := 12) rfl (by kernel_rfl) (fun Kont hK => ?_)
        go_simp
        go_at_call 25; refine (is_any p K b ((b.drop i).take K) (.slice A4 n4 c4) _ S3 _ _ _ (iq.out.keep hHeld.2.2) (rq.out.keeps hHeld.2.2) (hpc.out.keeps hHeld.2.2) hlb.out).mono ?_; rintro e w7 ⟨rfl, k7⟩; have q7 := hHeld.2.2.then k7
        go_wp2_with fail
        refine hK.out _ _ ?hS12 (fun hHeld => ?_)
        case hS12 => (exact holdS2 h0 h1 lq lq q7)
        clear hK Kont
        refine takeL (i := 13) (v := ?v13) rfl (by kernel_rfl) (by kernel_rfl) (by kernel_rfl) (fun _ _ _ h => h) (by rfl) ?hy13 (by assumption) ?_
        case hy13 => (intro w hSw; (try dsimp only at hSw); go_simp; (try with_reducible rfl))
        try simp only [Act.put, List.setIfInBounds_toArray, List.set_cons_zero, List.set_cons_succ]
        refine wpAnyH_done (by kernel_rfl) ?_ _
        go_wp2_with fail
        go_roundw
        case rel => exact ⟨i + 1, by omega, by go_num, kq.then q7⟩
        case measure => simp [intOf]; omega
      · have hd : decide ((i : Int) + (K : Int) ≤ (n : Int)) = false := decide_eq_false (by omega)
        have z7 : i ≤ 301 := by omega
        go_wp2_with (go_at_call 10; refine (works_true _).mono ?_; rintro e w7 ⟨rfl, k7⟩)
        go_ret
        exact LawEnd.of_keeps ((kw6.then kq).then k7)

end Go.Proofs.Yticlhaofmcajpaa
