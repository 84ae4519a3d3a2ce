/-
  Walks over the reference of package dict: Same, where both are equal.
-/
import Derived.Test.YtcmagccfagijlaaGreatQ19
namespace Go.Proofs.YtcmagccfagijlaaGreat
set_option linter.unusedVariables false
set_option linter.unusedSimpArgs false
set_option linter.unusedSectionVars false
open Go.RowKit

theorem ctx_cells {w : World} {p : Nat} {v0 v1 v2 v3 v4 v5 v6 v7 v8 v9 : Value} {T : TypeId} (h : Blk w p #[v0, v1, v2, v3, v4, v5, v6, v7, v8, v9] T) :
    w.cell? ⟨p, 1, none⟩ = some v1 ∧ w.cell? ⟨p, 2, none⟩ = some v2 ∧ w.cell? ⟨p, 3, none⟩ = some v3 ∧ w.cell? ⟨p, 4, none⟩ = some v4 ∧ w.cell? ⟨p, 5, none⟩ = some v5 ∧ w.cell? ⟨p, 6, none⟩ = some v6 ∧ w.cell? ⟨p, 7, none⟩ = some v7 ∧ w.cell? ⟨p, 8, none⟩ = some v8 ∧ w.cell? ⟨p, 9, none⟩ = some v9 :=
  ⟨h.cell 1, h.cell 2, h.cell 3, h.cell 4, h.cell 5, h.cell 6, h.cell 7, h.cell 8, h.cell 9⟩
theorem dict_cell11 {w : World} {p : Nat} {v0 v1 v2 v3 v4 v5 v6 v7 v8 v9 va vb : Value} {T : TypeId} (h : Blk w p #[v0, v1, v2, v3, v4, v5, v6, v7, v8, v9, va, vb] T) : w.cell? ⟨p, 11, none⟩ = some vb := h.cell 11

set_option maxRecDepth 100000 in
set_option maxHeartbeats 8000000 in
theorem dsame_yes (id g1 g2 g3 a b c : Int) (t t' n1 n1' n2 n2' n3 n3' x x' : Value) (T L1 L2 L3 X : List Int) (w : World)
    (ht : RdI .i64 w t T) (ht' : RdI .i64 w t' T) (h1 : RdI .i64 w n1 L1) (h1' : RdI .i64 w n1' L1) (h2 : RdI .i64 w n2 L2) (h2' : RdI .i64 w n2' L2) (h3 : RdI .i64 w n3 L3) (h3' : RdI .i64 w n3' L3) (hx : RdI .u8 w x X) (hx' : RdI .u8 w x' X)
    (hT : T.length ≤ 1000000) (hL1 : L1.length ≤ 1000000) (hL2 : L2.length ≤ 1000000) (hL3 : L3.length ≤ 1000000) :
    Calls Tryz.prog 15 #[.agg (dictC id t g1 n1 g2 n2 g3 n3 a b c x), .agg (dictC id t' g1 n1' g2 n2' g3 n3' a b c x')] w fun e w' => e = .returned (.bool true) ∧ Keeps w w' [] := by
  have HSI := Lib.hid (fun w1 (k : Keeps w w1 []) => sameInts_yes t t' T w1 (ht.keeps k) (ht'.keeps k) hT)
  have HT1 := Lib.hid (fun w1 (k : Keeps w w1 []) => tsame_yes g1 n1 n1' L1 w1 (h1.keeps k) (h1'.keeps k) hL1)
  have HT2 := Lib.hid (fun w1 (k : Keeps w w1 []) => tsame_yes g2 n2 n2' L2 w1 (h2.keeps k) (h2'.keeps k) hL2)
  have HT3 := Lib.hid (fun w1 (k : Keeps w w1 []) => tsame_yes g3 n3 n3' L3 w1 (h3.keeps k) (h3'.keeps k) hL3)
  have HS1 := Lib.hid (fun w1 (k : Keeps w w1 []) => str_of (P := Tryz.prog) (hx.keeps k) Tryz.underlying22 Tryz.underlying5 Tryz.underlying9)
  have HS2 := Lib.hid (fun w1 (k : Keeps w w1 []) => str_of (P := Tryz.prog) (hx'.keeps k) Tryz.underlying22 Tryz.underlying5 Tryz.underlying9)
  generalize strOfNums X = SX at *
  obtain ⟨pa, pm, pc, rfl, -, -⟩ := ht.form
  obtain ⟨qa, qm, qc, rfl, -, -⟩ := ht'.form
  obtain ⟨p1a, p1m, p1c, rfl, -, -⟩ := h1.form
  obtain ⟨q1a, q1m, q1c, rfl, -, -⟩ := h1'.form
  obtain ⟨p2a, p2m, p2c, rfl, -, -⟩ := h2.form
  obtain ⟨q2a, q2m, q2c, rfl, -, -⟩ := h2'.form
  obtain ⟨p3a, p3m, p3c, rfl, -, -⟩ := h3.form
  obtain ⟨q3a, q3m, q3c, rfl, -, -⟩ := h3'.form
  obtain ⟨pxa, pxm, pxc, rfl, -, -⟩ := hx.form
  obtain ⟨qxa, qxm, qxc, rfl, -, -⟩ := hx'.form
  clear ht ht' h1 h1' h2 h2' h3 h3' hx hx' hT hL1 hL2 hL3
  have h3q := fun w1 => eq_three a b c a b c w1
  simp only [BEq.rfl, Bool.and_true] at h3q
  go_enter Tryz.func15, Tryz.ntmps15
  go_wp2_with fail
  go_region
  · have z0 := (((Blk.new w (dictC id (.slice pa pm pc) g1 (.slice p1a p1m p1c) g2 (.slice p2a p2m p2c) g3 (.slice p3a p3m p3c) a b c (.slice pxa pxm pxc)) 32).alloc (.cells (dictC id (.slice qa qm qc) g1 (.slice q1a q1m q1c) g2 (.slice q2a q2m q2c) g3 (.slice q3a q3m q3c) a b c (.slice qxa qxm qxc)) 32)).alloc (.cells #[.slice pa pm pc, .int .i64 g1, .slice p1a p1m p1c, .int .i64 g2, .slice p2a p2m p2c, .int .i64 g3, .slice p3a p3m p3c, .int .i64 a, .int .i64 b, .int .i64 c] 30)).alloc (.cells #[.slice qa qm qc, .int .i64 g1, .slice q1a q1m q1c, .int .i64 g2, .slice q2a q2m q2c, .int .i64 g3, .slice q3a q3m q3c, .int .i64 a, .int .i64 b, .int .i64 c] 30)
    have z1 := ((Blk.new (w.alloc (.cells (dictC id (.slice pa pm pc) g1 (.slice p1a p1m p1c) g2 (.slice p2a p2m p2c) g3 (.slice p3a p3m p3c) a b c (.slice pxa pxm pxc)) 32)) (dictC id (.slice qa qm qc) g1 (.slice q1a q1m q1c) g2 (.slice q2a q2m q2c) g3 (.slice q3a q3m q3c) a b c (.slice qxa qxm qxc)) 32).alloc (.cells #[.slice pa pm pc, .int .i64 g1, .slice p1a p1m p1c, .int .i64 g2, .slice p2a p2m p2c, .int .i64 g3, .slice p3a p3m p3c, .int .i64 a, .int .i64 b, .int .i64 c] 30)).alloc (.cells #[.slice qa qm qc, .int .i64 g1, .slice q1a q1m q1c, .int .i64 g2, .slice q2a q2m q2c, .int .i64 g3, .slice q3a q3m q3c, .int .i64 a, .int .i64 b, .int .i64 c] 30)
    have z2 := (Blk.new ((w.alloc (.cells (dictC id (.slice pa pm pc) g1 (.slice p1a p1m p1c) g2 (.slice p2a p2m p2c) g3 (.slice p3a p3m p3c) a b c (.slice pxa pxm pxc)) 32)).alloc (.cells (dictC id (.slice qa qm qc) g1 (.slice q1a q1m q1c) g2 (.slice q2a q2m q2c) g3 (.slice q3a q3m q3c) a b c (.slice qxa qxm qxc)) 32)) #[.slice pa pm pc, .int .i64 g1, .slice p1a p1m p1c, .int .i64 g2, .slice p2a p2m p2c, .int .i64 g3, .slice p3a p3m p3c, .int .i64 a, .int .i64 b, .int .i64 c] 30).alloc (.cells #[.slice qa qm qc, .int .i64 g1, .slice q1a q1m q1c, .int .i64 g2, .slice q2a q2m q2c, .int .i64 g3, .slice q3a q3m q3c, .int .i64 a, .int .i64 b, .int .i64 c] 30)
    have z3 := Blk.new (((w.alloc (.cells (dictC id (.slice pa pm pc) g1 (.slice p1a p1m p1c) g2 (.slice p2a p2m p2c) g3 (.slice p3a p3m p3c) a b c (.slice pxa pxm pxc)) 32)).alloc (.cells (dictC id (.slice qa qm qc) g1 (.slice q1a q1m q1c) g2 (.slice q2a q2m q2c) g3 (.slice q3a q3m q3c) a b c (.slice qxa qxm qxc)) 32)).alloc (.cells #[.slice pa pm pc, .int .i64 g1, .slice p1a p1m p1c, .int .i64 g2, .slice p2a p2m p2c, .int .i64 g3, .slice p3a p3m p3c, .int .i64 a, .int .i64 b, .int .i64 c] 30)) #[.slice qa qm qc, .int .i64 g1, .slice q1a q1m q1c, .int .i64 g2, .slice q2a q2m q2c, .int .i64 g3, .slice q3a q3m q3c, .int .i64 a, .int .i64 b, .int .i64 c] 30
    have zk : Keeps w ((((w.alloc (.cells (dictC id (.slice pa pm pc) g1 (.slice p1a p1m p1c) g2 (.slice p2a p2m p2c) g3 (.slice p3a p3m p3c) a b c (.slice pxa pxm pxc)) 32)).alloc (.cells (dictC id (.slice qa qm qc) g1 (.slice q1a q1m q1c) g2 (.slice q2a q2m q2c) g3 (.slice q3a q3m q3c) a b c (.slice qxa qxm qxc)) 32)).alloc (.cells #[.slice pa pm pc, .int .i64 g1, .slice p1a p1m p1c, .int .i64 g2, .slice p2a p2m p2c, .int .i64 g3, .slice p3a p3m p3c, .int .i64 a, .int .i64 b, .int .i64 c] 30)).alloc (.cells #[.slice qa qm qc, .int .i64 g1, .slice q1a q1m q1c, .int .i64 g2, .slice q2a q2m q2c, .int .i64 g3, .slice q3a q3m q3c, .int .i64 a, .int .i64 b, .int .i64 c] 30)) [] := ((((Keeps.refl w []).alloc _).alloc _).alloc _).alloc _
    simp only [World.size_alloc] at z1 z2 z3
    go_wp2_with fail
    refine (HSI.out _ zk.drew).mono ?_
    rintro e w1 ⟨rfl, m1, rfl⟩
    have zc := (z2.drew).drewN m1
    have zd := (z3.drew).drewN m1
    replace z0 := (z0.drew).drewN m1
    replace z1 := (z1.drew).drewN m1
    replace zk := (zk.drew).drewN m1
    clear z2 z3 HSI
    generalize World.drewN _ m1 = w1 at *
    obtain ⟨a1, a2, a3, a4, a5, a6, a7, a8, a9⟩ := ctx_cells zc
    obtain ⟨b1, b2, b3, b4, b5, b6, b7, b8, b9⟩ := ctx_cells zd
    have d1 := dict_cell11 z0
    have d2 := dict_cell11 z1
    go_wp2_with fail
    refine (HT1.out _ zk).mono ?_
    rintro e w2 ⟨rfl, kk⟩
    replace zc := zc.keeps kk (by simp)
    replace zd := zd.keeps kk (by simp)
    replace z0 := z0.keeps kk (by simp)
    replace z1 := z1.keeps kk (by simp)
    replace zk := zk.then kk
    clear kk a1 a2 a3 a4 a5 a6 a7 a8 a9 b1 b2 b3 b4 b5 b6 b7 b8 b9 d1 d2 HT1
    obtain ⟨a1, a2, a3, a4, a5, a6, a7, a8, a9⟩ := ctx_cells zc
    obtain ⟨b1, b2, b3, b4, b5, b6, b7, b8, b9⟩ := ctx_cells zd
    have d1 := dict_cell11 z0
    have d2 := dict_cell11 z1
    go_wp2_with fail
    refine (HT2.out _ zk).mono ?_
    rintro e w3 ⟨rfl, kk⟩
    replace zc := zc.keeps kk (by simp)
    replace zd := zd.keeps kk (by simp)
    replace z0 := z0.keeps kk (by simp)
    replace z1 := z1.keeps kk (by simp)
    replace zk := zk.then kk
    clear kk a1 a2 a3 a4 a5 a6 a7 a8 a9 b1 b2 b3 b4 b5 b6 b7 b8 b9 d1 d2 HT2
    obtain ⟨a1, a2, a3, a4, a5, a6, a7, a8, a9⟩ := ctx_cells zc
    obtain ⟨b1, b2, b3, b4, b5, b6, b7, b8, b9⟩ := ctx_cells zd
    have d1 := dict_cell11 z0
    have d2 := dict_cell11 z1
    go_wp2_with fail
    refine (HT3.out _ zk).mono ?_
    rintro e w4 ⟨rfl, kk⟩
    replace zc := zc.keeps kk (by simp)
    replace zd := zd.keeps kk (by simp)
    replace z0 := z0.keeps kk (by simp)
    replace z1 := z1.keeps kk (by simp)
    replace zk := zk.then kk
    clear kk a1 a2 a3 a4 a5 a6 a7 a8 a9 b1 b2 b3 b4 b5 b6 b7 b8 b9 d1 d2 HT3
    obtain ⟨a1, a2, a3, a4, a5, a6, a7, a8, a9⟩ := ctx_cells zc
    obtain ⟨b1, b2, b3, b4, b5, b6, b7, b8, b9⟩ := ctx_cells zd
    have d1 := dict_cell11 z0
    have d2 := dict_cell11 z1
    have s1 := HS1.out _ zk
    have s2 := HS2.out _ zk
    go_wp2_with fail
    go_ret
    exact ⟨rfl, zk⟩
  · have z0 := (((Blk.new w (dictC id (.slice pa pm pc) g1 (.slice p1a p1m p1c) g2 (.slice p2a p2m p2c) g3 (.slice p3a p3m p3c) a b c (.slice pxa pxm pxc)) 32).alloc (.cells (dictC id (.slice qa qm qc) g1 (.slice q1a q1m q1c) g2 (.slice q2a q2m q2c) g3 (.slice q3a q3m q3c) a b c (.slice qxa qxm qxc)) 32)).alloc (.cells #[.slice qa qm qc, .int .i64 g1, .slice q1a q1m q1c, .int .i64 g2, .slice q2a q2m q2c, .int .i64 g3, .slice q3a q3m q3c, .int .i64 a, .int .i64 b, .int .i64 c] 30)).alloc (.cells #[.slice pa pm pc, .int .i64 g1, .slice p1a p1m p1c, .int .i64 g2, .slice p2a p2m p2c, .int .i64 g3, .slice p3a p3m p3c, .int .i64 a, .int .i64 b, .int .i64 c] 30)
    have z1 := ((Blk.new (w.alloc (.cells (dictC id (.slice pa pm pc) g1 (.slice p1a p1m p1c) g2 (.slice p2a p2m p2c) g3 (.slice p3a p3m p3c) a b c (.slice pxa pxm pxc)) 32)) (dictC id (.slice qa qm qc) g1 (.slice q1a q1m q1c) g2 (.slice q2a q2m q2c) g3 (.slice q3a q3m q3c) a b c (.slice qxa qxm qxc)) 32).alloc (.cells #[.slice qa qm qc, .int .i64 g1, .slice q1a q1m q1c, .int .i64 g2, .slice q2a q2m q2c, .int .i64 g3, .slice q3a q3m q3c, .int .i64 a, .int .i64 b, .int .i64 c] 30)).alloc (.cells #[.slice pa pm pc, .int .i64 g1, .slice p1a p1m p1c, .int .i64 g2, .slice p2a p2m p2c, .int .i64 g3, .slice p3a p3m p3c, .int .i64 a, .int .i64 b, .int .i64 c] 30)
    have z2 := (Blk.new ((w.alloc (.cells (dictC id (.slice pa pm pc) g1 (.slice p1a p1m p1c) g2 (.slice p2a p2m p2c) g3 (.slice p3a p3m p3c) a b c (.slice pxa pxm pxc)) 32)).alloc (.cells (dictC id (.slice qa qm qc) g1 (.slice q1a q1m q1c) g2 (.slice q2a q2m q2c) g3 (.slice q3a q3m q3c) a b c (.slice qxa qxm qxc)) 32)) #[.slice qa qm qc, .int .i64 g1, .slice q1a q1m q1c, .int .i64 g2, .slice q2a q2m q2c, .int .i64 g3, .slice q3a q3m q3c, .int .i64 a, .int .i64 b, .int .i64 c] 30).alloc (.cells #[.slice pa pm pc, .int .i64 g1, .slice p1a p1m p1c, .int .i64 g2, .slice p2a p2m p2c, .int .i64 g3, .slice p3a p3m p3c, .int .i64 a, .int .i64 b, .int .i64 c] 30)
    have z3 := Blk.new (((w.alloc (.cells (dictC id (.slice pa pm pc) g1 (.slice p1a p1m p1c) g2 (.slice p2a p2m p2c) g3 (.slice p3a p3m p3c) a b c (.slice pxa pxm pxc)) 32)).alloc (.cells (dictC id (.slice qa qm qc) g1 (.slice q1a q1m q1c) g2 (.slice q2a q2m q2c) g3 (.slice q3a q3m q3c) a b c (.slice qxa qxm qxc)) 32)).alloc (.cells #[.slice qa qm qc, .int .i64 g1, .slice q1a q1m q1c, .int .i64 g2, .slice q2a q2m q2c, .int .i64 g3, .slice q3a q3m q3c, .int .i64 a, .int .i64 b, .int .i64 c] 30)) #[.slice pa pm pc, .int .i64 g1, .slice p1a p1m p1c, .int .i64 g2, .slice p2a p2m p2c, .int .i64 g3, .slice p3a p3m p3c, .int .i64 a, .int .i64 b, .int .i64 c] 30
    have zk : Keeps w ((((w.alloc (.cells (dictC id (.slice pa pm pc) g1 (.slice p1a p1m p1c) g2 (.slice p2a p2m p2c) g3 (.slice p3a p3m p3c) a b c (.slice pxa pxm pxc)) 32)).alloc (.cells (dictC id (.slice qa qm qc) g1 (.slice q1a q1m q1c) g2 (.slice q2a q2m q2c) g3 (.slice q3a q3m q3c) a b c (.slice qxa qxm qxc)) 32)).alloc (.cells #[.slice qa qm qc, .int .i64 g1, .slice q1a q1m q1c, .int .i64 g2, .slice q2a q2m q2c, .int .i64 g3, .slice q3a q3m q3c, .int .i64 a, .int .i64 b, .int .i64 c] 30)).alloc (.cells #[.slice pa pm pc, .int .i64 g1, .slice p1a p1m p1c, .int .i64 g2, .slice p2a p2m p2c, .int .i64 g3, .slice p3a p3m p3c, .int .i64 a, .int .i64 b, .int .i64 c] 30)) [] := ((((Keeps.refl w []).alloc _).alloc _).alloc _).alloc _
    simp only [World.size_alloc] at z1 z2 z3
    go_wp2_with fail
    refine (HSI.out _ zk.drew).mono ?_
    rintro e w1 ⟨rfl, m1, rfl⟩
    have zc := (z3.drew).drewN m1
    have zd := (z2.drew).drewN m1
    replace z0 := (z0.drew).drewN m1
    replace z1 := (z1.drew).drewN m1
    replace zk := (zk.drew).drewN m1
    clear z2 z3 HSI
    generalize World.drewN _ m1 = w1 at *
    obtain ⟨a1, a2, a3, a4, a5, a6, a7, a8, a9⟩ := ctx_cells zc
    obtain ⟨b1, b2, b3, b4, b5, b6, b7, b8, b9⟩ := ctx_cells zd
    have d1 := dict_cell11 z0
    have d2 := dict_cell11 z1
    go_wp2_with fail
    refine (HT1.out _ zk).mono ?_
    rintro e w2 ⟨rfl, kk⟩
    replace zc := zc.keeps kk (by simp)
    replace zd := zd.keeps kk (by simp)
    replace z0 := z0.keeps kk (by simp)
    replace z1 := z1.keeps kk (by simp)
    replace zk := zk.then kk
    clear kk a1 a2 a3 a4 a5 a6 a7 a8 a9 b1 b2 b3 b4 b5 b6 b7 b8 b9 d1 d2 HT1
    obtain ⟨a1, a2, a3, a4, a5, a6, a7, a8, a9⟩ := ctx_cells zc
    obtain ⟨b1, b2, b3, b4, b5, b6, b7, b8, b9⟩ := ctx_cells zd
    have d1 := dict_cell11 z0
    have d2 := dict_cell11 z1
    go_wp2_with fail
    refine (HT2.out _ zk).mono ?_
    rintro e w3 ⟨rfl, kk⟩
    replace zc := zc.keeps kk (by simp)
    replace zd := zd.keeps kk (by simp)
    replace z0 := z0.keeps kk (by simp)
    replace z1 := z1.keeps kk (by simp)
    replace zk := zk.then kk
    clear kk a1 a2 a3 a4 a5 a6 a7 a8 a9 b1 b2 b3 b4 b5 b6 b7 b8 b9 d1 d2 HT2
    obtain ⟨a1, a2, a3, a4, a5, a6, a7, a8, a9⟩ := ctx_cells zc
    obtain ⟨b1, b2, b3, b4, b5, b6, b7, b8, b9⟩ := ctx_cells zd
    have d1 := dict_cell11 z0
    have d2 := dict_cell11 z1
    go_wp2_with fail
    refine (HT3.out _ zk).mono ?_
    rintro e w4 ⟨rfl, kk⟩
    replace zc := zc.keeps kk (by simp)
    replace zd := zd.keeps kk (by simp)
    replace z0 := z0.keeps kk (by simp)
    replace z1 := z1.keeps kk (by simp)
    replace zk := zk.then kk
    clear kk a1 a2 a3 a4 a5 a6 a7 a8 a9 b1 b2 b3 b4 b5 b6 b7 b8 b9 d1 d2 HT3
    obtain ⟨a1, a2, a3, a4, a5, a6, a7, a8, a9⟩ := ctx_cells zc
    obtain ⟨b1, b2, b3, b4, b5, b6, b7, b8, b9⟩ := ctx_cells zd
    have d1 := dict_cell11 z0
    have d2 := dict_cell11 z1
    have s1 := HS1.out _ zk
    have s2 := HS2.out _ zk
    go_wp2_with fail
    go_ret
    exact ⟨rfl, zk⟩


end Go.Proofs.YtcmagccfagijlaaGreat
