/-
  The law on valid dictionaries and initial contexts: its walk. (Printed by mkEj.py.)
-/
import Derived.Test.YtcmagccfagijlaaGreatQ31
import Derived.Test.YtcmagccfagijlaaGreatQ1
namespace Go.Proofs.YtcmagccfagijlaaGreat
set_option linter.unusedVariables false
set_option linter.unusedSimpArgs false
set_option linter.unusedSectionVars false
open Go.RowKit

set_option maxRecDepth 100000 in
set_option maxHeartbeats 8000000 in
theorem law_may (id g1 g2 g3 a b c : Int) (t n1 n2 n3 x : Value) (T L1 L2 L3 X : List Int) (w : World) (ht : RdI .i64 w t T) (h1 : RdI .i64 w n1 L1) (h2 : RdI .i64 w n2 L2) (h3 : RdI .i64 w n3 L3) (hx : RdI .u8 w x X) (hxb : ∀ y ∈ X, 0 ≤ y ∧ y ≤ 255) (hb1 : ∀ x ∈ L1, -9223372036854775808 ≤ x ∧ x ≤ 9223372036854775807) (hb2 : ∀ x ∈ L2, -9223372036854775808 ≤ x ∧ x ≤ 9223372036854775807) (hb3 : ∀ x ∈ L3, -9223372036854775808 ≤ x ∧ x ≤ 9223372036854775807) :
    Calls Tryz.prog 4 #[.agg (dictC id t g1 n1 g2 n2 g3 n3 a b c x)] w (LawEnd w) := by
  have HF := Lib.hid (fun w1 (k : Keeps w w1 []) => few_any id g1 g2 g3 a b c _ _ _ _ _ T L1 L2 L3 X w1 (ht.keeps k) (h1.keeps k) (h2.keeps k) (h3.keeps k) (hx.keeps k))
  cases hfew : fewB T L1 L2 L3 X with
  | false =>
    rw [hfew] at HF
    obtain ⟨pa, pm, pc, rfl, htn, -⟩ := ht.form
    obtain ⟨p1a, p1m, p1c, rfl, h1n, -⟩ := h1.form
    obtain ⟨p2a, p2m, p2c, rfl, h2n, -⟩ := h2.form
    obtain ⟨p3a, p3m, p3c, rfl, h3n, -⟩ := h3.form
    obtain ⟨pxa, pxm, pxc, rfl, hxn, -⟩ := hx.form
    clear ht h1 h2 h3 hx htn h1n h2n h3n hxn hxb hb1 hb2 hb3 hfew
    go_enter Tryz.func4, Tryz.ntmps4
    go_wp2_with (first
      | (go_at_call 18; go_loud (refine (HF.out _ ((Keeps.refl w []).alloc _)).mono ?_; rintro e w1 ⟨rfl, k1⟩))
      | (go_at_call 11; refine (known_true _).mono ?_; rintro e w5 ⟨rfl, kk⟩))
    go_ret
    exact ⟨rfl, ((((Keeps.refl w []).alloc _).then k1).then kk).below⟩
  | true =>
    rw [hfew] at HF
    obtain ⟨l4, l0, l1, l2, l3⟩ := fewB_iff.1 hfew
    have HO := Lib.hid (fun w1 (k : Keeps w w1 []) => down_any id g1 g2 g3 a b c _ _ _ _ _ T L1 L2 L3 X w1 (ht.keeps k) (h1.keeps k) (h2.keeps k) (h3.keeps k) (hx.keeps k) (by omega) (by omega) (by omega) (by omega) (by omega))
    have HMA := Lib.hid (fun w1 (k : Keeps w w1 []) => rMay_any id g1 g2 g3 a b c t n1 n2 n3 x T L1 L2 L3 X w1 (ht.keeps k) (h1.keeps k) (h2.keeps k) (h3.keeps k) (hx.keeps k) (by omega) (by omega) (by omega) (by omega) (by omega) hxb)
    have HBG := Lib.hid (fun w1 (k : Keeps w w1 []) (bp : Blk w1 w.heap.size (dictC id t g1 n1 g2 n2 g3 n3 a b c x) 32) => rbegin_any w.heap.size id g1 g2 g3 a b c t n1 n2 n3 x T L1 L2 L3 X w1 bp (ht.keeps k) (h1.keeps k) (h2.keeps k) (h3.keeps k) (hx.keeps k) (by omega) (by omega) (by omega) (by omega) (by omega) hxb)
    have HVO := Lib.hid (fun w1 t n1 n2 n3 x (r : RdI .i64 w1 t T ∧ RdI .i64 w1 n1 L1 ∧ RdI .i64 w1 n2 L2 ∧ RdI .i64 w1 n3 L3 ∧ RdI .u8 w1 x X) => valid_any id g1 g2 g3 a b c t n1 n2 n3 x T L1 L2 L3 X w1 r.1 r.2.1 r.2.2.1 r.2.2.2.1 r.2.2.2.2 (by omega) (by omega) (by omega) (by omega) (by omega) hxb hb1 hb2 hb3)
    have HIC := Lib.hid (fun w1 p t n1 n2 n3 x (bp : Blk w1 p (dictC id t g1 n1 g2 n2 g3 n3 a b c x) 32) (r : RdI .i64 w1 t T ∧ RdI .i64 w1 n1 L1 ∧ RdI .i64 w1 n2 L2 ∧ RdI .i64 w1 n3 L3 ∧ RdI .u8 w1 x X) => initc_any p id g1 g2 g3 a b c t n1 n2 n3 x T L1 L2 L3 X w1 bp r.1 r.2.1 r.2.2.1 r.2.2.2.1 r.2.2.2.2 (by omega) (by omega) (by omega) (by omega) (by omega) hxb hb1 hb2 hb3)
    have HSD : Hid (∀ w1, Keeps w w1 [] → ∀ t' n1' n2' n3' x', (RdI .i64 w1 t' T ∧ RdI .i64 w1 n1' L1 ∧ RdI .i64 w1 n2' L2 ∧ RdI .i64 w1 n3' L3 ∧ RdI .u8 w1 x' X) → Calls Tryz.prog 15 #[.agg (dictC id t' g1 n1' g2 n2' g3 n3' a b c x'), .agg (dictC id t g1 n1 g2 n2 g3 n3 a b c x)] w1 fun e w' => e = .returned (.bool true) ∧ Keeps w1 w' []) := fun w1 k t' n1' n2' n3' x' r => by
      refine (dsame_any id id g1 g1 g2 g2 g3 g3 a a b b c c t' t n1' n1 n2' n2 n3' n3 x' x T T L1 L1 L2 L2 L3 L3 X X w1 r.1 (ht.keeps k) r.2.1 (h1.keeps k) r.2.2.1 (h2.keeps k) r.2.2.2.1 (h3.keeps k) r.2.2.2.2 (hx.keeps k) (by omega) (by omega) (by omega) (by omega) (by omega) (by omega) (by omega) (by omega) hxb hxb).mono ?_
      rintro e w4 ⟨rfl, k4⟩
      exact ⟨by simp, k4⟩
    have HLT := Lib.hid (show T.length ≤ 1000000 ∧ L1.length ≤ 1000000 ∧ L2.length ≤ 1000000 ∧ L3.length ≤ 1000000 from ⟨by omega, by omega, by omega, by omega⟩)
    obtain ⟨pa, pm, pc, rfl, htn, -⟩ := ht.form
    obtain ⟨p1a, p1m, p1c, rfl, h1n, -⟩ := h1.form
    obtain ⟨p2a, p2m, p2c, rfl, h2n, -⟩ := h2.form
    obtain ⟨p3a, p3m, p3c, rfl, h3n, -⟩ := h3.form
    obtain ⟨pxa, pxm, pxc, rfl, hxn, -⟩ := hx.form
    clear ht h1 h2 h3 hx htn h1n h2n h3n hxn hxb hb1 hb2 hb3 hfew l4 l0 l1 l2 l3
    generalize hV : validB id T L1 L2 L3 g1 g2 g3 a b c X = V at *
    clear hV
    have bd := Blk.new w (dictC id (.slice pa pm pc) g1 (.slice p1a p1m p1c) g2 (.slice p2a p2m p2c) g3 (.slice p3a p3m p3c) a b c (.slice pxa pxm pxc)) 32
    have k0 := (Keeps.refl w []).alloc (.cells (dictC id (.slice pa pm pc) g1 (.slice p1a p1m p1c) g2 (.slice p2a p2m p2c) g3 (.slice p3a p3m p3c) a b c (.slice pxa pxm pxc)) 32)
    go_enter Tryz.func4, Tryz.ntmps4
    go_wp2_with fail
    generalize w.alloc (.cells (dictC id (.slice pa pm pc) g1 (.slice p1a p1m p1c) g2 (.slice p2a p2m p2c) g3 (.slice p3a p3m p3c) a b c (.slice pxa pxm pxc)) 32) = W0 at *
    refine (HF.out _ k0).mono ?_
    rintro e w1 ⟨rfl, kk⟩
    replace bd := bd.keeps kk (by simp)
    replace k0 := k0.then kk
    clear kk HF
    obtain ⟨q0, q1, q2, q3, q4, q5, q6, q7, q8, q9, qa, qb⟩ := dict_cells bd
    go_wp2_with fail
    clear q0 q1 q2 q3 q4 q5 q6 q7 q8 q9 qa qb
    refine (HO.out _ k0).mono ?_
    rintro e w2 ⟨t', n1', n2', n3', x', rfl, ⟨r0, r1, r2, r3, r4⟩, -, kk⟩
    have RO := Lib.hid (fun w9 (k : Keeps w2 w9 []) => (show _ ∧ _ ∧ _ ∧ _ ∧ _ from ⟨r0.keeps k, r1.keeps k, r2.keeps k, r3.keeps k, r4.keeps k⟩))
    obtain ⟨oa, om, oc, rfl, -, -⟩ := r0.form
    obtain ⟨o1a, o1m, o1c, rfl, -, -⟩ := r1.form
    obtain ⟨o2a, o2m, o2c, rfl, -, -⟩ := r2.form
    obtain ⟨o3a, o3m, o3c, rfl, -, -⟩ := r3.form
    obtain ⟨oxa, oxm, oxc, rfl, -, -⟩ := r4.form
    clear r0 r1 r2 r3 r4
    replace bd := bd.keeps kk (by simp)
    replace k0 := k0.then kk
    clear kk HO
    go_wp2_with fail
    have bo := Blk.new w2 (dictC id (.slice oa om oc) g1 (.slice o1a o1m o1c) g2 (.slice o2a o2m o2c) g3 (.slice o3a o3m o3c) a b c (.slice oxa oxm oxc)) 32
    replace bd := bd.alloc (.cells (dictC id (.slice oa om oc) g1 (.slice o1a o1m o1c) g2 (.slice o2a o2m o2c) g3 (.slice o3a o3m o3c) a b c (.slice oxa oxm oxc)) 32)
    replace k0 := k0.alloc (.cells (dictC id (.slice oa om oc) g1 (.slice o1a o1m o1c) g2 (.slice o2a o2m o2c) g3 (.slice o3a o3m o3c) a b c (.slice oxa oxm oxc)) 32)
    have ko := (Keeps.refl w2 []).alloc (.cells (dictC id (.slice oa om oc) g1 (.slice o1a o1m o1c) g2 (.slice o2a o2m o2c) g3 (.slice o3a o3m o3c) a b c (.slice oxa oxm oxc)) 32)
    generalize (w2.alloc (.cells (dictC id (.slice oa om oc) g1 (.slice o1a o1m o1c) g2 (.slice o2a o2m o2c) g3 (.slice o3a o3m o3c) a b c (.slice oxa oxm oxc)) 32)) = W2 at *
    refine (HIC.out _ w2.heap.size _ _ _ _ _ bo (RO.out _ ko)).mono ?_
    rintro e w4 ⟨u0, G1, m1, G2, m2, G3, m3, A, B, C, T', M1, M2, M3, rfl, ⟨s0, s1, s2, s3⟩, HX0, kk⟩
    have RX := Lib.hid (fun w9 (k : Keeps w4 w9 []) => (show _ ∧ _ ∧ _ ∧ _ from ⟨s0.keeps k, s1.keeps k, s2.keeps k, s3.keeps k⟩))
    obtain ⟨ua, um, uc, rfl, -, -⟩ := s0.form
    obtain ⟨u1a, u1m, u1c, rfl, -, -⟩ := s1.form
    obtain ⟨u2a, u2m, u2c, rfl, -, -⟩ := s2.form
    obtain ⟨u3a, u3m, u3c, rfl, -, -⟩ := s3.form
    clear s0 s1 s2 s3
    have HXX := Lib.hid HX0
    clear HX0
    replace bd := bd.keeps kk (by simp)
    replace bo := bo.keeps kk (by simp)
    replace k0 := k0.then kk
    replace ko := ko.then kk
    clear kk
    go_wp2_with fail
    have bx := Blk.new w4 #[.slice ua um uc, .int .i64 G1, .slice u1a u1m u1c, .int .i64 G2, .slice u2a u2m u2c, .int .i64 G3, .slice u3a u3m u3c, .int .i64 A, .int .i64 B, .int .i64 C] 30
    replace bd := bd.alloc (.cells #[.slice ua um uc, .int .i64 G1, .slice u1a u1m u1c, .int .i64 G2, .slice u2a u2m u2c, .int .i64 G3, .slice u3a u3m u3c, .int .i64 A, .int .i64 B, .int .i64 C] 30)
    replace bo := bo.alloc (.cells #[.slice ua um uc, .int .i64 G1, .slice u1a u1m u1c, .int .i64 G2, .slice u2a u2m u2c, .int .i64 G3, .slice u3a u3m u3c, .int .i64 A, .int .i64 B, .int .i64 C] 30)
    replace k0 := k0.alloc (.cells #[.slice ua um uc, .int .i64 G1, .slice u1a u1m u1c, .int .i64 G2, .slice u2a u2m u2c, .int .i64 G3, .slice u3a u3m u3c, .int .i64 A, .int .i64 B, .int .i64 C] 30)
    replace ko := ko.alloc (.cells #[.slice ua um uc, .int .i64 G1, .slice u1a u1m u1c, .int .i64 G2, .slice u2a u2m u2c, .int .i64 G3, .slice u3a u3m u3c, .int .i64 A, .int .i64 B, .int .i64 C] 30)
    have kx := (Keeps.refl w4 []).alloc (.cells #[.slice ua um uc, .int .i64 G1, .slice u1a u1m u1c, .int .i64 G2, .slice u2a u2m u2c, .int .i64 G3, .slice u3a u3m u3c, .int .i64 A, .int .i64 B, .int .i64 C] 30)
    generalize (w4.alloc (.cells #[.slice ua um uc, .int .i64 G1, .slice u1a u1m u1c, .int .i64 G2, .slice u2a u2m u2c, .int .i64 G3, .slice u3a u3m u3c, .int .i64 A, .int .i64 B, .int .i64 C] 30)) = W4 at *
    refine wp_region_held_drew (S := (fun w' => Blk w' w.heap.size (dictC id (.slice pa pm pc) g1 (.slice p1a p1m p1c) g2 (.slice p2a p2m p2c) g3 (.slice p3a p3m p3c) a b c (.slice pxa pxm pxc)) 32 ∧ Blk w' w2.heap.size (dictC id (.slice oa om oc) g1 (.slice o1a o1m o1c) g2 (.slice o2a o2m o2c) g3 (.slice o3a o3m o3c) a b c (.slice oxa oxm oxc)) 32 ∧ Blk w' w4.heap.size #[.slice ua um uc, .int .i64 G1, .slice u1a u1m u1c, .int .i64 G2, .slice u2a u2m u2c, .int .i64 G3, .slice u3a u3m u3c, .int .i64 A, .int .i64 B, .int .i64 C] 30 ∧ Keeps W4 w' [])) (by kernel_rfl) ⟨bd.drew, bo.drew, bx.drew, (Keeps.refl W4 []).drew⟩ (fun hHeld => ?_)
    refine takeL (i := 0) (v := ?_) rfl (by kernel_rfl) (by kernel_rfl) (by kernel_rfl) (fun _ _ _ h => h) (by rfl) ?_ (by assumption) ?_
    rotate_left
    · (intro w9 hSw; obtain ⟨q0, q1, q2, q3, q4, q5, q6, q7, q8, q9, qa, qb⟩ := dict_cells hSw.2.1; clear hSw; go_simp; (try with_reducible rfl))
    try simp only [Act.put, List.setIfInBounds_toArray, List.set_cons_zero, List.set_cons_succ]
    refine takeL (i := 2) (v := ?_) rfl (by kernel_rfl) (by kernel_rfl) (by kernel_rfl) (fun _ _ _ h => h) (by rfl) ?_ (by assumption) ?_
    rotate_left
    · (intro w9 hSw; obtain ⟨q0, q1, q2, q3, q4, q5, q6, q7, q8, q9, qa, qb⟩ := dict_cells hSw.1; clear hSw; go_simp; (try with_reducible rfl))
    try simp only [Act.put, List.setIfInBounds_toArray, List.set_cons_zero, List.set_cons_succ]
    refine callL (i := 1) rfl (by kernel_rfl) (fun Kont hK => ?_)
    go_simp
    refine (HVO.out _ _ _ _ _ _ (RO.out _ (ko.then hHeld.2.2.2))).mono ?_; rintro e w5 ⟨rfl, kk⟩
    go_wp2_with fail
    refine hK.out _ _ ?_ (fun hHeld => ?_)
    · (exact ⟨hHeld.1.keeps kk (by simp), hHeld.2.1.keeps kk (by simp), hHeld.2.2.1.keeps kk (by simp), hHeld.2.2.2.then kk⟩)
    clear hK Kont
    refine callL (i := 3) rfl (by kernel_rfl) (fun Kont hK => ?_)
    go_simp
    refine (HMA.out _ (k0.then hHeld.2.2.2)).mono ?_; rintro e w6 ⟨rfl, kk⟩
    go_wp2_with fail
    refine hK.out _ _ ?_ (fun hHeld => ?_)
    · (exact ⟨hHeld.1.keeps kk (by simp), hHeld.2.1.keeps kk (by simp), hHeld.2.2.1.keeps kk (by simp), hHeld.2.2.2.then kk⟩)
    clear hK Kont
    refine takeL (i := 4) (v := ?_) rfl (by kernel_rfl) (by kernel_rfl) (by kernel_rfl) (fun _ _ _ h => h) (by rfl) ?_ (by assumption) ?_
    rotate_left
    · (intro w9 hSw; clear hSw; go_simp; (try with_reducible rfl))
    try simp only [Act.put, List.setIfInBounds_toArray, List.set_cons_zero, List.set_cons_succ]
    refine takeL (i := 5) (v := ?_) rfl (by kernel_rfl) (by kernel_rfl) (by kernel_rfl) (fun _ _ _ h => h) (by rfl) ?_ (by assumption) ?_
    rotate_left
    · (intro w9 hSw; clear hSw; go_simp; (try with_reducible rfl))
    try simp only [Act.put, List.setIfInBounds_toArray, List.set_cons_zero, List.set_cons_succ]
    refine takeL (i := 6) (v := ?_) rfl (by kernel_rfl) (by kernel_rfl) (by kernel_rfl) (fun _ _ _ h => h) (by rfl) ?_ (by assumption) ?_
    rotate_left
    · (intro w9 hSw; have q0 := ctx_cell0 hSw.2.2.1; obtain ⟨q1, q2, q3, q4, q5, q6, q7, q8, q9⟩ := ctx_cells hSw.2.2.1; clear hSw; go_simp; (try with_reducible rfl))
    try simp only [Act.put, List.setIfInBounds_toArray, List.set_cons_zero, List.set_cons_succ]
    refine callL (i := 7) rfl (by kernel_rfl) (fun Kont hK => ?_)
    go_simp
    refine (HBG.out _ (k0.then hHeld.2.2.2) hHeld.1).mono ?_
    rintro e w7 ⟨y0, H1, y1, H2, y2, H3, y3, A', B', C', T'', N1, N2, N3, rfl, ⟨z0, z1, z2, z3⟩, HY0, kk⟩
    rw [← HXX.out] at HY0
    simp only [Prod.mk.injEq] at HY0
    obtain ⟨rfl, rfl, rfl, rfl, rfl, rfl, rfl, rfl, rfl, rfl⟩ := HY0
    have RX1 := RX.out _ ((kx.then hHeld.2.2.2).then kk)
    have HLT2 : Hid (T''.length ≤ 1000000 ∧ N1.length ≤ 1000000 ∧ N2.length ≤ 1000000 ∧ N3.length ≤ 1000000) := by
      have h9 := HXX.out
      cases V
      · simp only [Bool.false_eq_true, if_false, Prod.mk.injEq] at h9
        obtain ⟨e1, -, e2, -, e3, -, e4, -⟩ := h9
        subst e1 e2 e3 e4
        exact ⟨by simp, by simp, by simp, by simp⟩
      · simp only [if_true, Prod.mk.injEq] at h9
        obtain ⟨e1, -, e2, -, e3, -, e4, -⟩ := h9
        subst e1 e2 e3 e4
        exact HLT.out
    have HSC := Lib.hid (fun w9 (k : Keeps w7 w9 []) => rsamec_yes H1 H2 H3 A' B' C' _ _ _ _ _ _ _ _ T'' N1 N2 N3 w9 (RX1.1.keeps k) (z0.keeps k) (RX1.2.1.keeps k) (z1.keeps k) (RX1.2.2.1.keeps k) (z2.keeps k) (RX1.2.2.2.keeps k) (z3.keeps k) HLT2.out.1 HLT2.out.2.1 HLT2.out.2.2.1 HLT2.out.2.2.2)
    clear z0 z1 z2 z3 RX1
    go_wp2_with fail
    refine hK.out _ _ ?_ (fun hHeld => ?_)
    · exact ⟨hHeld.1.keeps kk (by simp), hHeld.2.1.keeps kk (by simp), hHeld.2.2.1.keeps kk (by simp), hHeld.2.2.2.then kk⟩
    clear hK Kont
    refine callL (i := 8) rfl (by kernel_rfl) (fun Kont hK => ?_)
    go_simp
    refine (HSC.out _ (Keeps.refl _ _)).mono ?_; rintro e w8 ⟨rfl, kk⟩
    go_wp2_with fail
    refine hK.out _ _ ?_ (fun hHeld => ?_)
    · (exact ⟨hHeld.1.keeps kk (by simp), hHeld.2.1.keeps kk (by simp), hHeld.2.2.1.keeps kk (by simp), hHeld.2.2.2.then kk⟩)
    clear hK Kont
    refine takeL (i := 9) (v := ?_) rfl (by kernel_rfl) (by kernel_rfl) (by kernel_rfl) (fun _ _ _ h => h) (by rfl) ?_ (by assumption) ?_
    rotate_left
    · (intro w9 hSw; clear hSw; go_simp; (try with_reducible rfl))
    try simp only [Act.put, List.setIfInBounds_toArray, List.set_cons_zero, List.set_cons_succ]
    refine takeL (i := 10) (v := ?_) rfl (by kernel_rfl) (by kernel_rfl) (by kernel_rfl) (fun _ _ _ h => h) (by rfl) ?_ (by assumption) ?_
    rotate_left
    · (intro w9 hSw; clear hSw; go_simp; (try with_reducible rfl))
    try simp only [Act.put, List.setIfInBounds_toArray, List.set_cons_zero, List.set_cons_succ]
    refine takeL (i := 11) (v := ?_) rfl (by kernel_rfl) (by kernel_rfl) (by kernel_rfl) (fun _ _ _ h => h) (by rfl) ?_ (by assumption) ?_
    rotate_left
    · (intro w9 hSw; obtain ⟨q0, q1, q2, q3, q4, q5, q6, q7, q8, q9, qa, qb⟩ := dict_cells hSw.2.1; clear hSw; go_simp; (try with_reducible rfl))
    try simp only [Act.put, List.setIfInBounds_toArray, List.set_cons_zero, List.set_cons_succ]
    refine takeL (i := 12) (v := ?_) rfl (by kernel_rfl) (by kernel_rfl) (by kernel_rfl) (fun _ _ _ h => h) (by rfl) ?_ (by assumption) ?_
    rotate_left
    · (intro w9 hSw; obtain ⟨q0, q1, q2, q3, q4, q5, q6, q7, q8, q9, qa, qb⟩ := dict_cells hSw.1; clear hSw; go_simp; (try with_reducible rfl))
    try simp only [Act.put, List.setIfInBounds_toArray, List.set_cons_zero, List.set_cons_succ]
    refine callL (i := 13) rfl (by kernel_rfl) (fun Kont hK => ?_)
    go_simp
    refine (HSD.out _ (k0.then hHeld.2.2.2) _ _ _ _ _ (RO.out _ (ko.then hHeld.2.2.2))).mono ?_; rintro e w9 ⟨rfl, kk⟩
    go_wp2_with fail
    refine hK.out _ _ ?_ (fun hHeld => ?_)
    · (exact ⟨hHeld.1.keeps kk (by simp), hHeld.2.1.keeps kk (by simp), hHeld.2.2.1.keeps kk (by simp), hHeld.2.2.2.then kk⟩)
    clear hK Kont
    refine takeL (i := 14) (v := ?_) rfl (by kernel_rfl) (by kernel_rfl) (by kernel_rfl) (fun _ _ _ h => h) (by rfl) ?_ (by assumption) ?_
    rotate_left
    · (intro w9 hSw; clear hSw; go_simp; (try with_reducible rfl))
    try simp only [Act.put, List.setIfInBounds_toArray, List.set_cons_zero, List.set_cons_succ]
    refine takeL (i := 15) (v := ?_) rfl (by kernel_rfl) (by kernel_rfl) (by kernel_rfl) (fun _ _ _ h => h) (by rfl) ?_ (by assumption) ?_
    rotate_left
    · (intro w9 hSw; clear hSw; go_simp; (try with_reducible rfl))
    try simp only [Act.put, List.setIfInBounds_toArray, List.set_cons_zero, List.set_cons_succ]
    refine callL (i := 16) rfl (by kernel_rfl) (fun Kont hK => ?_)
    go_simp
    refine (known_true _).mono ?_; rintro e w10 ⟨rfl, kk⟩
    go_wp2_with fail
    refine hK.out _ _ ?_ (fun hHeld => ?_)
    · (exact ⟨hHeld.1.keeps kk (by simp), hHeld.2.1.keeps kk (by simp), hHeld.2.2.1.keeps kk (by simp), hHeld.2.2.2.then kk⟩)
    clear hK Kont
    refine takeL (i := 17) (v := ?_) rfl (by kernel_rfl) (by kernel_rfl) (by kernel_rfl) (fun _ _ _ h => h) (by rfl) ?_ (by assumption) ?_
    rotate_left
    · (intro w9 hSw; clear hSw; go_simp; (try with_reducible rfl))
    try simp only [Act.put, List.setIfInBounds_toArray, List.set_cons_zero, List.set_cons_succ]
    refine takeL (i := 18) (v := ?_) rfl (by kernel_rfl) (by kernel_rfl) (by kernel_rfl) (fun _ _ _ h => h) (by rfl) ?_ (by assumption) ?_
    rotate_left
    · (intro w9 hSw; clear hSw; go_simp; (try with_reducible rfl))
    try simp only [Act.put, List.setIfInBounds_toArray, List.set_cons_zero, List.set_cons_succ]
    refine wpAnyH_done (by kernel_rfl) ?_ _
    go_wp2_with fail
    go_ret
    exact ⟨rfl, (k0.then hHeld.2.2.2).below⟩


end Go.Proofs.YtcmagccfagijlaaGreat
