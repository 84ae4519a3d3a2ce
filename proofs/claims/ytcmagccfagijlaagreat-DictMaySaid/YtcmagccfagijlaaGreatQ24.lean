/-
  Walks over the reference of package dict: Same, whether equal or not.
-/
import Derived.Test.YtcmagccfagijlaaGreatQ22
import Derived.Test.YtcmagccfagijlaaGreatQ23
namespace Go.Proofs.YtcmagccfagijlaaGreat
set_option linter.unusedVariables false
set_option linter.unusedSimpArgs false
set_option linter.unusedSectionVars false
open Go.RowKit

theorem dict_cell0 {w : World} {p : Nat} {v0 v1 v2 v3 v4 v5 v6 v7 v8 v9 va vb : Value} {T : TypeId} (h : Blk w p #[v0, v1, v2, v3, v4, v5, v6, v7, v8, v9, va, vb] T) : w.cell? ⟨p, 0, none⟩ = some v0 := h.cell 0
theorem decide_and_seven (p q r s t u v : Prop) [Decidable p] [Decidable q] [Decidable r] [Decidable s] [Decidable t] [Decidable u] [Decidable v] : decide (p ∧ q ∧ r ∧ s ∧ t ∧ u ∧ v) = (decide p && (decide q && (decide r && (decide s && (decide t && (decide u && decide v)))))) := by
  simp only [Bool.decide_and]

set_option maxRecDepth 100000 in
set_option maxHeartbeats 8000000 in
theorem dsame_any (id id' g1 g1' g2 g2' g3 g3' a a' b b' c c' : Int) (t t' n1 n1' n2 n2' n3 n3' x x' : Value) (T T' L1 L1' L2 L2' L3 L3' X X' : List Int) (w : World)
    (ht : RdI .i64 w t T) (ht' : RdI .i64 w t' T') (h1 : RdI .i64 w n1 L1) (h1' : RdI .i64 w n1' L1') (h2 : RdI .i64 w n2 L2) (h2' : RdI .i64 w n2' L2') (h3 : RdI .i64 w n3 L3) (h3' : RdI .i64 w n3' L3') (hx : RdI .u8 w x X) (hx' : RdI .u8 w x' X')
    (hT : T.length ≤ 1000000) (hL1 : L1.length ≤ 1000000) (hL2 : L2.length ≤ 1000000) (hL3 : L3.length ≤ 1000000) (hT' : T'.length ≤ 1000000) (hL1' : L1'.length ≤ 1000000) (hL2' : L2'.length ≤ 1000000) (hL3' : L3'.length ≤ 1000000) (hX : ∀ n ∈ X, 0 ≤ n ∧ n ≤ 255) (hX' : ∀ n ∈ X', 0 ≤ n ∧ n ≤ 255) :
    Calls Tryz.prog 15 #[.agg (dictC id t g1 n1 g2 n2 g3 n3 a b c x), .agg (dictC id' t' g1' n1' g2' n2' g3' n3' a' b' c' x')] w fun e w' => e = .returned (.bool (decide (id = id' ∧ T = T' ∧ (g1 = g1' ∧ L1 = L1') ∧ (g2 = g2' ∧ L2 = L2') ∧ (g3 = g3' ∧ L3 = L3') ∧ (a = a' ∧ b = b' ∧ c = c') ∧ X = X'))) ∧ Keeps w w' [] := by
  have HSI := Lib.hid (fun w1 (k : Keeps w w1 []) => sameInts_any t t' T T' w1 (ht.keeps k) (ht'.keeps k) hT hT')
  have HT1 := Lib.hid (fun w1 (k : Keeps w w1 []) => tsame_any g1 g1' n1 n1' L1 L1' w1 (h1.keeps k) (h1'.keeps k) hL1 hL1')
  have HT2 := Lib.hid (fun w1 (k : Keeps w w1 []) => tsame_any g2 g2' n2 n2' L2 L2' w1 (h2.keeps k) (h2'.keeps k) hL2 hL2')
  have HT3 := Lib.hid (fun w1 (k : Keeps w w1 []) => tsame_any g3 g3' n3 n3' L3 L3' w1 (h3.keeps k) (h3'.keeps k) hL3 hL3')
  have HS1 := Lib.hid (fun w1 (k : Keeps w w1 []) => str_of (P := Tryz.prog) (hx.keeps k) Tryz.underlying22 Tryz.underlying5 Tryz.underlying9)
  have HS2 := Lib.hid (fun w1 (k : Keeps w w1 []) => str_of (P := Tryz.prog) (hx'.keeps k) Tryz.underlying22 Tryz.underlying5 Tryz.underlying9)
  have hss := str_beq hX hX'
  have h3q := fun w1 => eq_three a b c a' b' c' w1
  have e3 : (a == a' && (b == b' && c == c')) = decide (a = a' ∧ b = b' ∧ c = c') := by
    simp only [Bool.decide_and]
    rfl
  have hi0 : (id == id') = decide (id = id') := rfl
  simp only [e3] at h3q
  rw [decide_and_seven]
  clear e3
  generalize decide (id = id') = R0 at *
  generalize decide (T = T') = R1 at *
  generalize decide (g1 = g1' ∧ L1 = L1') = R2 at *
  generalize decide (g2 = g2' ∧ L2 = L2') = R3 at *
  generalize decide (g3 = g3' ∧ L3 = L3') = R4 at *
  generalize decide (a = a' ∧ b = b' ∧ c = c') = R5 at *
  generalize decide (X = X') = R6 at *
  generalize strOfNums X = SX at *
  generalize strOfNums X' = SY at *
  obtain ⟨pa, pm, pc, rfl, -, -⟩ := ht.form
  obtain ⟨qa, qm, qc, rfl, -, -⟩ := ht'.form
  obtain ⟨p1a, p1m, p1c, rfl, -, -⟩ := h1.form
  obtain ⟨q1a, q1m, q1c, rfl, -, -⟩ := h1'.form
  obtain ⟨p2a, p2m, p2c, rfl, -, -⟩ := h2.form
  obtain ⟨q2a, q2m, q2c, rfl, -, -⟩ := h2'.form
  obtain ⟨p3a, p3m, p3c, rfl, -, -⟩ := h3.form
  obtain ⟨q3a, q3m, q3c, rfl, -, -⟩ := h3'.form
  obtain ⟨pxa, pxm, pxc, rfl, -, -⟩ := hx.form
  obtain ⟨qxa, qxm, qxc, rfl, -, -⟩ := hx'.form
  clear ht ht' h1 h1' h2 h2' h3 h3' hx hx' hT hL1 hL2 hL3 hT' hL1' hL2' hL3' hX hX'
  go_enter Tryz.func15, Tryz.ntmps15
  go_wp2_with fail
  go_region
  · have z0 := (((Blk.new w (dictC id (.slice pa pm pc) g1 (.slice p1a p1m p1c) g2 (.slice p2a p2m p2c) g3 (.slice p3a p3m p3c) a b c (.slice pxa pxm pxc)) 32).alloc (.cells (dictC id' (.slice qa qm qc) g1' (.slice q1a q1m q1c) g2' (.slice q2a q2m q2c) g3' (.slice q3a q3m q3c) a' b' c' (.slice qxa qxm qxc)) 32)).alloc (.cells #[.slice pa pm pc, .int .i64 g1, .slice p1a p1m p1c, .int .i64 g2, .slice p2a p2m p2c, .int .i64 g3, .slice p3a p3m p3c, .int .i64 a, .int .i64 b, .int .i64 c] 30)).alloc (.cells #[.slice qa qm qc, .int .i64 g1', .slice q1a q1m q1c, .int .i64 g2', .slice q2a q2m q2c, .int .i64 g3', .slice q3a q3m q3c, .int .i64 a', .int .i64 b', .int .i64 c'] 30)
    have z1 := ((Blk.new (w.alloc (.cells (dictC id (.slice pa pm pc) g1 (.slice p1a p1m p1c) g2 (.slice p2a p2m p2c) g3 (.slice p3a p3m p3c) a b c (.slice pxa pxm pxc)) 32)) (dictC id' (.slice qa qm qc) g1' (.slice q1a q1m q1c) g2' (.slice q2a q2m q2c) g3' (.slice q3a q3m q3c) a' b' c' (.slice qxa qxm qxc)) 32).alloc (.cells #[.slice pa pm pc, .int .i64 g1, .slice p1a p1m p1c, .int .i64 g2, .slice p2a p2m p2c, .int .i64 g3, .slice p3a p3m p3c, .int .i64 a, .int .i64 b, .int .i64 c] 30)).alloc (.cells #[.slice qa qm qc, .int .i64 g1', .slice q1a q1m q1c, .int .i64 g2', .slice q2a q2m q2c, .int .i64 g3', .slice q3a q3m q3c, .int .i64 a', .int .i64 b', .int .i64 c'] 30)
    have z2 := (Blk.new ((w.alloc (.cells (dictC id (.slice pa pm pc) g1 (.slice p1a p1m p1c) g2 (.slice p2a p2m p2c) g3 (.slice p3a p3m p3c) a b c (.slice pxa pxm pxc)) 32)).alloc (.cells (dictC id' (.slice qa qm qc) g1' (.slice q1a q1m q1c) g2' (.slice q2a q2m q2c) g3' (.slice q3a q3m q3c) a' b' c' (.slice qxa qxm qxc)) 32)) #[.slice pa pm pc, .int .i64 g1, .slice p1a p1m p1c, .int .i64 g2, .slice p2a p2m p2c, .int .i64 g3, .slice p3a p3m p3c, .int .i64 a, .int .i64 b, .int .i64 c] 30).alloc (.cells #[.slice qa qm qc, .int .i64 g1', .slice q1a q1m q1c, .int .i64 g2', .slice q2a q2m q2c, .int .i64 g3', .slice q3a q3m q3c, .int .i64 a', .int .i64 b', .int .i64 c'] 30)
    have z3 := Blk.new (((w.alloc (.cells (dictC id (.slice pa pm pc) g1 (.slice p1a p1m p1c) g2 (.slice p2a p2m p2c) g3 (.slice p3a p3m p3c) a b c (.slice pxa pxm pxc)) 32)).alloc (.cells (dictC id' (.slice qa qm qc) g1' (.slice q1a q1m q1c) g2' (.slice q2a q2m q2c) g3' (.slice q3a q3m q3c) a' b' c' (.slice qxa qxm qxc)) 32)).alloc (.cells #[.slice pa pm pc, .int .i64 g1, .slice p1a p1m p1c, .int .i64 g2, .slice p2a p2m p2c, .int .i64 g3, .slice p3a p3m p3c, .int .i64 a, .int .i64 b, .int .i64 c] 30)) #[.slice qa qm qc, .int .i64 g1', .slice q1a q1m q1c, .int .i64 g2', .slice q2a q2m q2c, .int .i64 g3', .slice q3a q3m q3c, .int .i64 a', .int .i64 b', .int .i64 c'] 30
    have zk : Keeps w ((((w.alloc (.cells (dictC id (.slice pa pm pc) g1 (.slice p1a p1m p1c) g2 (.slice p2a p2m p2c) g3 (.slice p3a p3m p3c) a b c (.slice pxa pxm pxc)) 32)).alloc (.cells (dictC id' (.slice qa qm qc) g1' (.slice q1a q1m q1c) g2' (.slice q2a q2m q2c) g3' (.slice q3a q3m q3c) a' b' c' (.slice qxa qxm qxc)) 32)).alloc (.cells #[.slice pa pm pc, .int .i64 g1, .slice p1a p1m p1c, .int .i64 g2, .slice p2a p2m p2c, .int .i64 g3, .slice p3a p3m p3c, .int .i64 a, .int .i64 b, .int .i64 c] 30)).alloc (.cells #[.slice qa qm qc, .int .i64 g1', .slice q1a q1m q1c, .int .i64 g2', .slice q2a q2m q2c, .int .i64 g3', .slice q3a q3m q3c, .int .i64 a', .int .i64 b', .int .i64 c'] 30)) [] := ((((Keeps.refl w []).alloc _).alloc _).alloc _).alloc _
    simp only [World.size_alloc] at z1 z2 z3
    generalize ((((w.alloc (.cells (dictC id (.slice pa pm pc) g1 (.slice p1a p1m p1c) g2 (.slice p2a p2m p2c) g3 (.slice p3a p3m p3c) a b c (.slice pxa pxm pxc)) 32)).alloc (.cells (dictC id' (.slice qa qm qc) g1' (.slice q1a q1m q1c) g2' (.slice q2a q2m q2c) g3' (.slice q3a q3m q3c) a' b' c' (.slice qxa qxm qxc)) 32)).alloc (.cells #[.slice pa pm pc, .int .i64 g1, .slice p1a p1m p1c, .int .i64 g2, .slice p2a p2m p2c, .int .i64 g3, .slice p3a p3m p3c, .int .i64 a, .int .i64 b, .int .i64 c] 30)).alloc (.cells #[.slice qa qm qc, .int .i64 g1', .slice q1a q1m q1c, .int .i64 g2', .slice q2a q2m q2c, .int .i64 g3', .slice q3a q3m q3c, .int .i64 a', .int .i64 b', .int .i64 c'] 30)) = w0 at *
    have zc := z2
    have zd := z3
    clear z2 z3
    replace z0 := z0.drew
    replace z1 := z1.drew
    replace zc := zc.drew
    replace zd := zd.drew
    replace zk := zk.drew
    have f1 := ctx_cell0 zc
    have f2 := ctx_cell0 zd
    obtain ⟨a1, a2, a3, a4, a5, a6, a7, a8, a9⟩ := ctx_cells zc
    obtain ⟨b1, b2, b3, b4, b5, b6, b7, b8, b9⟩ := ctx_cells zd
    have d1 := dict_cell11 z0
    have d2 := dict_cell11 z1
    have o1 := dict_cell0 z0
    have o2 := dict_cell0 z1
    cases R0
    · go_wp2_with fail
      go_ret
      exact ⟨by simp, zk⟩
    go_wp2_with fail
    refine (HSI.out _ zk).mono ?_
    rintro e w1 ⟨rfl, m1, rfl⟩
    replace zc := zc.drewN m1
    replace zd := zd.drewN m1
    replace z0 := z0.drewN m1
    replace z1 := z1.drewN m1
    replace zk := zk.drewN m1
    clear a1 a2 a3 a4 a5 a6 a7 a8 a9 b1 b2 b3 b4 b5 b6 b7 b8 b9 d1 d2 f1 f2 o1 o2 HSI
    generalize World.drewN _ m1 = w1 at *
    have f1 := ctx_cell0 zc
    have f2 := ctx_cell0 zd
    obtain ⟨a1, a2, a3, a4, a5, a6, a7, a8, a9⟩ := ctx_cells zc
    obtain ⟨b1, b2, b3, b4, b5, b6, b7, b8, b9⟩ := ctx_cells zd
    have d1 := dict_cell11 z0
    have d2 := dict_cell11 z1
    have o1 := dict_cell0 z0
    have o2 := dict_cell0 z1
    cases R1
    · go_wp2_with fail
      go_ret
      exact ⟨by simp, zk⟩
    go_wp2_with fail
    refine (HT1.out _ zk).mono ?_
    rintro e w2 ⟨rfl, kk⟩
    replace zc := zc.keeps kk (by simp)
    replace zd := zd.keeps kk (by simp)
    replace z0 := z0.keeps kk (by simp)
    replace z1 := z1.keeps kk (by simp)
    replace zk := zk.then kk
    clear kk a1 a2 a3 a4 a5 a6 a7 a8 a9 b1 b2 b3 b4 b5 b6 b7 b8 b9 d1 d2 f1 f2 o1 o2 HT1
    have f1 := ctx_cell0 zc
    have f2 := ctx_cell0 zd
    obtain ⟨a1, a2, a3, a4, a5, a6, a7, a8, a9⟩ := ctx_cells zc
    obtain ⟨b1, b2, b3, b4, b5, b6, b7, b8, b9⟩ := ctx_cells zd
    have d1 := dict_cell11 z0
    have d2 := dict_cell11 z1
    have o1 := dict_cell0 z0
    have o2 := dict_cell0 z1
    cases R2
    · go_wp2_with fail
      go_ret
      exact ⟨by simp, zk⟩
    go_wp2_with fail
    refine (HT2.out _ zk).mono ?_
    rintro e w3 ⟨rfl, kk⟩
    replace zc := zc.keeps kk (by simp)
    replace zd := zd.keeps kk (by simp)
    replace z0 := z0.keeps kk (by simp)
    replace z1 := z1.keeps kk (by simp)
    replace zk := zk.then kk
    clear kk a1 a2 a3 a4 a5 a6 a7 a8 a9 b1 b2 b3 b4 b5 b6 b7 b8 b9 d1 d2 f1 f2 o1 o2 HT2
    have f1 := ctx_cell0 zc
    have f2 := ctx_cell0 zd
    obtain ⟨a1, a2, a3, a4, a5, a6, a7, a8, a9⟩ := ctx_cells zc
    obtain ⟨b1, b2, b3, b4, b5, b6, b7, b8, b9⟩ := ctx_cells zd
    have d1 := dict_cell11 z0
    have d2 := dict_cell11 z1
    have o1 := dict_cell0 z0
    have o2 := dict_cell0 z1
    cases R3
    · go_wp2_with fail
      go_ret
      exact ⟨by simp, zk⟩
    go_wp2_with fail
    refine (HT3.out _ zk).mono ?_
    rintro e w4 ⟨rfl, kk⟩
    replace zc := zc.keeps kk (by simp)
    replace zd := zd.keeps kk (by simp)
    replace z0 := z0.keeps kk (by simp)
    replace z1 := z1.keeps kk (by simp)
    replace zk := zk.then kk
    clear kk a1 a2 a3 a4 a5 a6 a7 a8 a9 b1 b2 b3 b4 b5 b6 b7 b8 b9 d1 d2 f1 f2 o1 o2 HT3
    have f1 := ctx_cell0 zc
    have f2 := ctx_cell0 zd
    obtain ⟨a1, a2, a3, a4, a5, a6, a7, a8, a9⟩ := ctx_cells zc
    obtain ⟨b1, b2, b3, b4, b5, b6, b7, b8, b9⟩ := ctx_cells zd
    have d1 := dict_cell11 z0
    have d2 := dict_cell11 z1
    have o1 := dict_cell0 z0
    have o2 := dict_cell0 z1
    cases R4
    · go_wp2_with fail
      go_ret
      exact ⟨by simp, zk⟩
    cases R5
    · go_wp2_with fail
      go_ret
      exact ⟨by simp, zk⟩
    have s1 := HS1.out _ zk
    have s2 := HS2.out _ zk
    go_wp2_with fail
    go_ret
    exact ⟨by simp, zk⟩
  · have z0 := (((Blk.new w (dictC id (.slice pa pm pc) g1 (.slice p1a p1m p1c) g2 (.slice p2a p2m p2c) g3 (.slice p3a p3m p3c) a b c (.slice pxa pxm pxc)) 32).alloc (.cells (dictC id' (.slice qa qm qc) g1' (.slice q1a q1m q1c) g2' (.slice q2a q2m q2c) g3' (.slice q3a q3m q3c) a' b' c' (.slice qxa qxm qxc)) 32)).alloc (.cells #[.slice qa qm qc, .int .i64 g1', .slice q1a q1m q1c, .int .i64 g2', .slice q2a q2m q2c, .int .i64 g3', .slice q3a q3m q3c, .int .i64 a', .int .i64 b', .int .i64 c'] 30)).alloc (.cells #[.slice pa pm pc, .int .i64 g1, .slice p1a p1m p1c, .int .i64 g2, .slice p2a p2m p2c, .int .i64 g3, .slice p3a p3m p3c, .int .i64 a, .int .i64 b, .int .i64 c] 30)
    have z1 := ((Blk.new (w.alloc (.cells (dictC id (.slice pa pm pc) g1 (.slice p1a p1m p1c) g2 (.slice p2a p2m p2c) g3 (.slice p3a p3m p3c) a b c (.slice pxa pxm pxc)) 32)) (dictC id' (.slice qa qm qc) g1' (.slice q1a q1m q1c) g2' (.slice q2a q2m q2c) g3' (.slice q3a q3m q3c) a' b' c' (.slice qxa qxm qxc)) 32).alloc (.cells #[.slice qa qm qc, .int .i64 g1', .slice q1a q1m q1c, .int .i64 g2', .slice q2a q2m q2c, .int .i64 g3', .slice q3a q3m q3c, .int .i64 a', .int .i64 b', .int .i64 c'] 30)).alloc (.cells #[.slice pa pm pc, .int .i64 g1, .slice p1a p1m p1c, .int .i64 g2, .slice p2a p2m p2c, .int .i64 g3, .slice p3a p3m p3c, .int .i64 a, .int .i64 b, .int .i64 c] 30)
    have z2 := (Blk.new ((w.alloc (.cells (dictC id (.slice pa pm pc) g1 (.slice p1a p1m p1c) g2 (.slice p2a p2m p2c) g3 (.slice p3a p3m p3c) a b c (.slice pxa pxm pxc)) 32)).alloc (.cells (dictC id' (.slice qa qm qc) g1' (.slice q1a q1m q1c) g2' (.slice q2a q2m q2c) g3' (.slice q3a q3m q3c) a' b' c' (.slice qxa qxm qxc)) 32)) #[.slice qa qm qc, .int .i64 g1', .slice q1a q1m q1c, .int .i64 g2', .slice q2a q2m q2c, .int .i64 g3', .slice q3a q3m q3c, .int .i64 a', .int .i64 b', .int .i64 c'] 30).alloc (.cells #[.slice pa pm pc, .int .i64 g1, .slice p1a p1m p1c, .int .i64 g2, .slice p2a p2m p2c, .int .i64 g3, .slice p3a p3m p3c, .int .i64 a, .int .i64 b, .int .i64 c] 30)
    have z3 := Blk.new (((w.alloc (.cells (dictC id (.slice pa pm pc) g1 (.slice p1a p1m p1c) g2 (.slice p2a p2m p2c) g3 (.slice p3a p3m p3c) a b c (.slice pxa pxm pxc)) 32)).alloc (.cells (dictC id' (.slice qa qm qc) g1' (.slice q1a q1m q1c) g2' (.slice q2a q2m q2c) g3' (.slice q3a q3m q3c) a' b' c' (.slice qxa qxm qxc)) 32)).alloc (.cells #[.slice qa qm qc, .int .i64 g1', .slice q1a q1m q1c, .int .i64 g2', .slice q2a q2m q2c, .int .i64 g3', .slice q3a q3m q3c, .int .i64 a', .int .i64 b', .int .i64 c'] 30)) #[.slice pa pm pc, .int .i64 g1, .slice p1a p1m p1c, .int .i64 g2, .slice p2a p2m p2c, .int .i64 g3, .slice p3a p3m p3c, .int .i64 a, .int .i64 b, .int .i64 c] 30
    have zk : Keeps w ((((w.alloc (.cells (dictC id (.slice pa pm pc) g1 (.slice p1a p1m p1c) g2 (.slice p2a p2m p2c) g3 (.slice p3a p3m p3c) a b c (.slice pxa pxm pxc)) 32)).alloc (.cells (dictC id' (.slice qa qm qc) g1' (.slice q1a q1m q1c) g2' (.slice q2a q2m q2c) g3' (.slice q3a q3m q3c) a' b' c' (.slice qxa qxm qxc)) 32)).alloc (.cells #[.slice qa qm qc, .int .i64 g1', .slice q1a q1m q1c, .int .i64 g2', .slice q2a q2m q2c, .int .i64 g3', .slice q3a q3m q3c, .int .i64 a', .int .i64 b', .int .i64 c'] 30)).alloc (.cells #[.slice pa pm pc, .int .i64 g1, .slice p1a p1m p1c, .int .i64 g2, .slice p2a p2m p2c, .int .i64 g3, .slice p3a p3m p3c, .int .i64 a, .int .i64 b, .int .i64 c] 30)) [] := ((((Keeps.refl w []).alloc _).alloc _).alloc _).alloc _
    simp only [World.size_alloc] at z1 z2 z3
    generalize ((((w.alloc (.cells (dictC id (.slice pa pm pc) g1 (.slice p1a p1m p1c) g2 (.slice p2a p2m p2c) g3 (.slice p3a p3m p3c) a b c (.slice pxa pxm pxc)) 32)).alloc (.cells (dictC id' (.slice qa qm qc) g1' (.slice q1a q1m q1c) g2' (.slice q2a q2m q2c) g3' (.slice q3a q3m q3c) a' b' c' (.slice qxa qxm qxc)) 32)).alloc (.cells #[.slice qa qm qc, .int .i64 g1', .slice q1a q1m q1c, .int .i64 g2', .slice q2a q2m q2c, .int .i64 g3', .slice q3a q3m q3c, .int .i64 a', .int .i64 b', .int .i64 c'] 30)).alloc (.cells #[.slice pa pm pc, .int .i64 g1, .slice p1a p1m p1c, .int .i64 g2, .slice p2a p2m p2c, .int .i64 g3, .slice p3a p3m p3c, .int .i64 a, .int .i64 b, .int .i64 c] 30)) = w0 at *
    have zc := z3
    have zd := z2
    clear z2 z3
    replace z0 := z0.drew
    replace z1 := z1.drew
    replace zc := zc.drew
    replace zd := zd.drew
    replace zk := zk.drew
    have f1 := ctx_cell0 zc
    have f2 := ctx_cell0 zd
    obtain ⟨a1, a2, a3, a4, a5, a6, a7, a8, a9⟩ := ctx_cells zc
    obtain ⟨b1, b2, b3, b4, b5, b6, b7, b8, b9⟩ := ctx_cells zd
    have d1 := dict_cell11 z0
    have d2 := dict_cell11 z1
    have o1 := dict_cell0 z0
    have o2 := dict_cell0 z1
    cases R0
    · go_wp2_with fail
      go_ret
      exact ⟨by simp, zk⟩
    go_wp2_with fail
    refine (HSI.out _ zk).mono ?_
    rintro e w1 ⟨rfl, m1, rfl⟩
    replace zc := zc.drewN m1
    replace zd := zd.drewN m1
    replace z0 := z0.drewN m1
    replace z1 := z1.drewN m1
    replace zk := zk.drewN m1
    clear a1 a2 a3 a4 a5 a6 a7 a8 a9 b1 b2 b3 b4 b5 b6 b7 b8 b9 d1 d2 f1 f2 o1 o2 HSI
    generalize World.drewN _ m1 = w1 at *
    have f1 := ctx_cell0 zc
    have f2 := ctx_cell0 zd
    obtain ⟨a1, a2, a3, a4, a5, a6, a7, a8, a9⟩ := ctx_cells zc
    obtain ⟨b1, b2, b3, b4, b5, b6, b7, b8, b9⟩ := ctx_cells zd
    have d1 := dict_cell11 z0
    have d2 := dict_cell11 z1
    have o1 := dict_cell0 z0
    have o2 := dict_cell0 z1
    cases R1
    · go_wp2_with fail
      go_ret
      exact ⟨by simp, zk⟩
    go_wp2_with fail
    refine (HT1.out _ zk).mono ?_
    rintro e w2 ⟨rfl, kk⟩
    replace zc := zc.keeps kk (by simp)
    replace zd := zd.keeps kk (by simp)
    replace z0 := z0.keeps kk (by simp)
    replace z1 := z1.keeps kk (by simp)
    replace zk := zk.then kk
    clear kk a1 a2 a3 a4 a5 a6 a7 a8 a9 b1 b2 b3 b4 b5 b6 b7 b8 b9 d1 d2 f1 f2 o1 o2 HT1
    have f1 := ctx_cell0 zc
    have f2 := ctx_cell0 zd
    obtain ⟨a1, a2, a3, a4, a5, a6, a7, a8, a9⟩ := ctx_cells zc
    obtain ⟨b1, b2, b3, b4, b5, b6, b7, b8, b9⟩ := ctx_cells zd
    have d1 := dict_cell11 z0
    have d2 := dict_cell11 z1
    have o1 := dict_cell0 z0
    have o2 := dict_cell0 z1
    cases R2
    · go_wp2_with fail
      go_ret
      exact ⟨by simp, zk⟩
    go_wp2_with fail
    refine (HT2.out _ zk).mono ?_
    rintro e w3 ⟨rfl, kk⟩
    replace zc := zc.keeps kk (by simp)
    replace zd := zd.keeps kk (by simp)
    replace z0 := z0.keeps kk (by simp)
    replace z1 := z1.keeps kk (by simp)
    replace zk := zk.then kk
    clear kk a1 a2 a3 a4 a5 a6 a7 a8 a9 b1 b2 b3 b4 b5 b6 b7 b8 b9 d1 d2 f1 f2 o1 o2 HT2
    have f1 := ctx_cell0 zc
    have f2 := ctx_cell0 zd
    obtain ⟨a1, a2, a3, a4, a5, a6, a7, a8, a9⟩ := ctx_cells zc
    obtain ⟨b1, b2, b3, b4, b5, b6, b7, b8, b9⟩ := ctx_cells zd
    have d1 := dict_cell11 z0
    have d2 := dict_cell11 z1
    have o1 := dict_cell0 z0
    have o2 := dict_cell0 z1
    cases R3
    · go_wp2_with fail
      go_ret
      exact ⟨by simp, zk⟩
    go_wp2_with fail
    refine (HT3.out _ zk).mono ?_
    rintro e w4 ⟨rfl, kk⟩
    replace zc := zc.keeps kk (by simp)
    replace zd := zd.keeps kk (by simp)
    replace z0 := z0.keeps kk (by simp)
    replace z1 := z1.keeps kk (by simp)
    replace zk := zk.then kk
    clear kk a1 a2 a3 a4 a5 a6 a7 a8 a9 b1 b2 b3 b4 b5 b6 b7 b8 b9 d1 d2 f1 f2 o1 o2 HT3
    have f1 := ctx_cell0 zc
    have f2 := ctx_cell0 zd
    obtain ⟨a1, a2, a3, a4, a5, a6, a7, a8, a9⟩ := ctx_cells zc
    obtain ⟨b1, b2, b3, b4, b5, b6, b7, b8, b9⟩ := ctx_cells zd
    have d1 := dict_cell11 z0
    have d2 := dict_cell11 z1
    have o1 := dict_cell0 z0
    have o2 := dict_cell0 z1
    cases R4
    · go_wp2_with fail
      go_ret
      exact ⟨by simp, zk⟩
    cases R5
    · go_wp2_with fail
      go_ret
      exact ⟨by simp, zk⟩
    have s1 := HS1.out _ zk
    have s2 := HS2.out _ zk
    go_wp2_with fail
    go_ret
    exact ⟨by simp, zk⟩


end Go.Proofs.YtcmagccfagijlaaGreat
