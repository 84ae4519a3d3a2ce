/-
  Walks over the reference of package dict: Same, where both are equal.
  Walks over package dict: plain, Valid, at a raw dictionary. (Printed by mkDG.py.)
  Walks over package dict: InitialContext(nil); the law's known. (Printed by mkDO.py.)
  Deep copies: the reference's own of a table, Own of a context; the law's own. (Printed by mkDX.py.)
-/
import Derived.Test.YtcmagccfagijlaaGreatQ6
import Derived.Test.YtcmagccfagijlaaGreatQ1
import Derived.Test.YtcmagccfagijlaaGreatQ2
namespace Go.Proofs.YtcmagccfagijlaaGreat
set_option linter.unusedVariables false
set_option linter.unusedSimpArgs false
set_option linter.unusedSectionVars false
set_option maxRecDepth 100000
section
open Go.RowKit

theorem ctx_cells {w : World} {p : Nat} {v0 v1 v2 v3 v4 v5 v6 v7 v8 v9 : Value} {T : TypeId} (h : Blk w p #[v0,v1,v2,v3,v4,v5,v6,v7,v8,v9] T) :
  w.cell? ⟨p,1,none⟩ = some v1 ∧ w.cell? ⟨p,2,none⟩ = some v2 ∧ w.cell? ⟨p,3,none⟩ = some v3 ∧ w.cell? ⟨p,4,none⟩ = some v4 ∧ w.cell? ⟨p,5,none⟩ = some v5 ∧ w.cell? ⟨p,6,none⟩ = some v6 ∧ w.cell? ⟨p,7,none⟩ = some v7 ∧ w.cell? ⟨p,8,none⟩ = some v8 ∧ w.cell? ⟨p,9,none⟩ = some v9 :=
 ⟨h.cell 1,h.cell 2,h.cell 3,h.cell 4,h.cell 5,h.cell 6,h.cell 7,h.cell 8,h.cell 9⟩
theorem dict_cell11 {w : World} {p : Nat} {v0 v1 v2 v3 v4 v5 v6 v7 v8 v9 va vb : Value} {T : TypeId} (h : Blk w p #[v0,v1,v2,v3,v4,v5,v6,v7,v8,v9,va,vb] T) : w.cell? ⟨p,11,none⟩ = some vb := h.cell 11

set_option maxHeartbeats 8000000 in
theorem dsame_yes (id g1 g2 g3 a b c : Int) (t t' n1 n1' n2 n2' n3 n3' x x' : Value) (T L1 L2 L3 X : List Int) (w : World)
  (ht : RdI .i64 w t T) (ht' : RdI .i64 w t' T) (h1 : RdI .i64 w n1 L1) (h1' : RdI .i64 w n1' L1) (h2 : RdI .i64 w n2 L2) (h2' : RdI .i64 w n2' L2) (h3 : RdI .i64 w n3 L3) (h3' : RdI .i64 w n3' L3) (hx : RdI .u8 w x X) (hx' : RdI .u8 w x' X)
  (hT : T.length ≤ 1000000) (hL1 : L1.length ≤ 1000000) (hL2 : L2.length ≤ 1000000) (hL3 : L3.length ≤ 1000000) :
  Calls Tryz.prog 15 #[.agg (dictC id t g1 n1 g2 n2 g3 n3 a b c x),.agg (dictC id t' g1 n1' g2 n2' g3 n3' a b c x')] w fun e w' => e = .returned (.bool true) ∧ Keeps w w' [] := by
 have HSI := Lib.hid (fun w1 (k : Keeps w w1 []) => sameInts_yes t t' T w1 (ht.keeps k) (ht'.keeps k) hT)
 have HT1 := Lib.hid (fun w1 (k : Keeps w w1 []) => tsame_yes g1 n1 n1' L1 w1 (h1.keeps k) (h1'.keeps k) hL1)
 have HT2 := Lib.hid (fun w1 (k : Keeps w w1 []) => tsame_yes g2 n2 n2' L2 w1 (h2.keeps k) (h2'.keeps k) hL2)
 have HT3 := Lib.hid (fun w1 (k : Keeps w w1 []) => tsame_yes g3 n3 n3' L3 w1 (h3.keeps k) (h3'.keeps k) hL3)
 have HS1 := Lib.hid (fun w1 (k : Keeps w w1 []) => str_of (P := Tryz.prog) (hx.keeps k) Tryz.underlying22 Tryz.underlying5 Tryz.underlying9)
 have HS2 := Lib.hid (fun w1 (k : Keeps w w1 []) => str_of (P := Tryz.prog) (hx'.keeps k) Tryz.underlying22 Tryz.underlying5 Tryz.underlying9)
 generalize strOfNums X = SX at *
 obtain ⟨pa,pm,pc,rfl,-,-⟩ := ht.form
 obtain ⟨qa,qm,qc,rfl,-,-⟩ := ht'.form
 obtain ⟨p1a,p1m,p1c,rfl,-,-⟩ := h1.form
 obtain ⟨q1a,q1m,q1c,rfl,-,-⟩ := h1'.form
 obtain ⟨p2a,p2m,p2c,rfl,-,-⟩ := h2.form
 obtain ⟨q2a,q2m,q2c,rfl,-,-⟩ := h2'.form
 obtain ⟨p3a,p3m,p3c,rfl,-,-⟩ := h3.form
 obtain ⟨q3a,q3m,q3c,rfl,-,-⟩ := h3'.form
 obtain ⟨pxa,pxm,pxc,rfl,-,-⟩ := hx.form
 obtain ⟨qxa,qxm,qxc,rfl,-,-⟩ := hx'.form
 clear ht ht' h1 h1' h2 h2' h3 h3' hx hx' hT hL1 hL2 hL3
 have h3q := fun w1 => eq_three a b c a b c w1
 simp only [BEq.rfl,Bool.and_true] at h3q
 go_enter Tryz.func15,Tryz.ntmps15
 go_wp2_with fail
 go_region
 ·have z0 := (((Blk.new w (dictC id (.slice pa pm pc) g1 (.slice p1a p1m p1c) g2 (.slice p2a p2m p2c) g3 (.slice p3a p3m p3c) a b c (.slice pxa pxm pxc)) 32).alloc (.cells (dictC id (.slice qa qm qc) g1 (.slice q1a q1m q1c) g2 (.slice q2a q2m q2c) g3 (.slice q3a q3m q3c) a b c (.slice qxa qxm qxc)) 32)).alloc (.cells #[.slice pa pm pc,.int .i64 g1,.slice p1a p1m p1c,.int .i64 g2,.slice p2a p2m p2c,.int .i64 g3,.slice p3a p3m p3c,.int .i64 a,.int .i64 b,.int .i64 c] 30)).alloc (.cells #[.slice qa qm qc,.int .i64 g1,.slice q1a q1m q1c,.int .i64 g2,.slice q2a q2m q2c,.int .i64 g3,.slice q3a q3m q3c,.int .i64 a,.int .i64 b,.int .i64 c] 30)
  have z1 := ((Blk.new (w.alloc (.cells (dictC id (.slice pa pm pc) g1 (.slice p1a p1m p1c) g2 (.slice p2a p2m p2c) g3 (.slice p3a p3m p3c) a b c (.slice pxa pxm pxc)) 32)) (dictC id (.slice qa qm qc) g1 (.slice q1a q1m q1c) g2 (.slice q2a q2m q2c) g3 (.slice q3a q3m q3c) a b c (.slice qxa qxm qxc)) 32).alloc (.cells #[.slice pa pm pc,.int .i64 g1,.slice p1a p1m p1c,.int .i64 g2,.slice p2a p2m p2c,.int .i64 g3,.slice p3a p3m p3c,.int .i64 a,.int .i64 b,.int .i64 c] 30)).alloc (.cells #[.slice qa qm qc,.int .i64 g1,.slice q1a q1m q1c,.int .i64 g2,.slice q2a q2m q2c,.int .i64 g3,.slice q3a q3m q3c,.int .i64 a,.int .i64 b,.int .i64 c] 30)
  have z2 := (Blk.new ((w.alloc (.cells (dictC id (.slice pa pm pc) g1 (.slice p1a p1m p1c) g2 (.slice p2a p2m p2c) g3 (.slice p3a p3m p3c) a b c (.slice pxa pxm pxc)) 32)).alloc (.cells (dictC id (.slice qa qm qc) g1 (.slice q1a q1m q1c) g2 (.slice q2a q2m q2c) g3 (.slice q3a q3m q3c) a b c (.slice qxa qxm qxc)) 32)) #[.slice pa pm pc,.int .i64 g1,.slice p1a p1m p1c,.int .i64 g2,.slice p2a p2m p2c,.int .i64 g3,.slice p3a p3m p3c,.int .i64 a,.int .i64 b,.int .i64 c] 30).alloc (.cells #[.slice qa qm qc,.int .i64 g1,.slice q1a q1m q1c,.int .i64 g2,.slice q2a q2m q2c,.int .i64 g3,.slice q3a q3m q3c,.int .i64 a,.int .i64 b,.int .i64 c] 30)
  have z3 := Blk.new (((w.alloc (.cells (dictC id (.slice pa pm pc) g1 (.slice p1a p1m p1c) g2 (.slice p2a p2m p2c) g3 (.slice p3a p3m p3c) a b c (.slice pxa pxm pxc)) 32)).alloc (.cells (dictC id (.slice qa qm qc) g1 (.slice q1a q1m q1c) g2 (.slice q2a q2m q2c) g3 (.slice q3a q3m q3c) a b c (.slice qxa qxm qxc)) 32)).alloc (.cells #[.slice pa pm pc,.int .i64 g1,.slice p1a p1m p1c,.int .i64 g2,.slice p2a p2m p2c,.int .i64 g3,.slice p3a p3m p3c,.int .i64 a,.int .i64 b,.int .i64 c] 30)) #[.slice qa qm qc,.int .i64 g1,.slice q1a q1m q1c,.int .i64 g2,.slice q2a q2m q2c,.int .i64 g3,.slice q3a q3m q3c,.int .i64 a,.int .i64 b,.int .i64 c] 30
  have zk : Keeps w ((((w.alloc (.cells (dictC id (.slice pa pm pc) g1 (.slice p1a p1m p1c) g2 (.slice p2a p2m p2c) g3 (.slice p3a p3m p3c) a b c (.slice pxa pxm pxc)) 32)).alloc (.cells (dictC id (.slice qa qm qc) g1 (.slice q1a q1m q1c) g2 (.slice q2a q2m q2c) g3 (.slice q3a q3m q3c) a b c (.slice qxa qxm qxc)) 32)).alloc (.cells #[.slice pa pm pc,.int .i64 g1,.slice p1a p1m p1c,.int .i64 g2,.slice p2a p2m p2c,.int .i64 g3,.slice p3a p3m p3c,.int .i64 a,.int .i64 b,.int .i64 c] 30)).alloc (.cells #[.slice qa qm qc,.int .i64 g1,.slice q1a q1m q1c,.int .i64 g2,.slice q2a q2m q2c,.int .i64 g3,.slice q3a q3m q3c,.int .i64 a,.int .i64 b,.int .i64 c] 30)) [] := ((((Keeps.refl w []).alloc _).alloc _).alloc _).alloc _
  simp only [World.size_alloc] at z1 z2 z3
  go_wp2_with fail
  refine (HSI.out _ zk.drew).mono ?_
  rintro e w1 ⟨rfl,m1,rfl⟩
  have zc := (z2.drew).drewN m1
  have zd := (z3.drew).drewN m1
  replace z0 := (z0.drew).drewN m1
  replace z1 := (z1.drew).drewN m1
  replace zk := (zk.drew).drewN m1
  clear z2 z3 HSI
  generalize World.drewN _ m1 = w1 at *
  obtain ⟨a1,a2,a3,a4,a5,a6,a7,a8,a9⟩ := ctx_cells zc
  obtain ⟨b1,b2,b3,b4,b5,b6,b7,b8,b9⟩ := ctx_cells zd
  have d1 := dict_cell11 z0
  have d2 := dict_cell11 z1
  go_wp2_with fail
  refine (HT1.out _ zk).mono ?_
  rintro e w2 ⟨rfl,kk⟩
  replace zc := zc.keeps kk (by simp)
  replace zd := zd.keeps kk (by simp)
  replace z0 := z0.keeps kk (by simp)
  replace z1 := z1.keeps kk (by simp)
  replace zk := zk.then kk
  clear kk a1 a2 a3 a4 a5 a6 a7 a8 a9 b1 b2 b3 b4 b5 b6 b7 b8 b9 d1 d2 HT1
  obtain ⟨a1,a2,a3,a4,a5,a6,a7,a8,a9⟩ := ctx_cells zc
  obtain ⟨b1,b2,b3,b4,b5,b6,b7,b8,b9⟩ := ctx_cells zd
  have d1 := dict_cell11 z0
  have d2 := dict_cell11 z1
  go_wp2_with fail
  refine (HT2.out _ zk).mono ?_
  rintro e w3 ⟨rfl,kk⟩
  replace zc := zc.keeps kk (by simp)
  replace zd := zd.keeps kk (by simp)
  replace z0 := z0.keeps kk (by simp)
  replace z1 := z1.keeps kk (by simp)
  replace zk := zk.then kk
  clear kk a1 a2 a3 a4 a5 a6 a7 a8 a9 b1 b2 b3 b4 b5 b6 b7 b8 b9 d1 d2 HT2
  obtain ⟨a1,a2,a3,a4,a5,a6,a7,a8,a9⟩ := ctx_cells zc
  obtain ⟨b1,b2,b3,b4,b5,b6,b7,b8,b9⟩ := ctx_cells zd
  have d1 := dict_cell11 z0
  have d2 := dict_cell11 z1
  go_wp2_with fail
  refine (HT3.out _ zk).mono ?_
  rintro e w4 ⟨rfl,kk⟩
  replace zc := zc.keeps kk (by simp)
  replace zd := zd.keeps kk (by simp)
  replace z0 := z0.keeps kk (by simp)
  replace z1 := z1.keeps kk (by simp)
  replace zk := zk.then kk
  clear kk a1 a2 a3 a4 a5 a6 a7 a8 a9 b1 b2 b3 b4 b5 b6 b7 b8 b9 d1 d2 HT3
  obtain ⟨a1,a2,a3,a4,a5,a6,a7,a8,a9⟩ := ctx_cells zc
  obtain ⟨b1,b2,b3,b4,b5,b6,b7,b8,b9⟩ := ctx_cells zd
  have d1 := dict_cell11 z0
  have d2 := dict_cell11 z1
  have s1 := HS1.out _ zk
  have s2 := HS2.out _ zk
  go_wp2_with fail
  go_ret
  exact ⟨rfl,zk⟩
 ·have z0 := (((Blk.new w (dictC id (.slice pa pm pc) g1 (.slice p1a p1m p1c) g2 (.slice p2a p2m p2c) g3 (.slice p3a p3m p3c) a b c (.slice pxa pxm pxc)) 32).alloc (.cells (dictC id (.slice qa qm qc) g1 (.slice q1a q1m q1c) g2 (.slice q2a q2m q2c) g3 (.slice q3a q3m q3c) a b c (.slice qxa qxm qxc)) 32)).alloc (.cells #[.slice qa qm qc,.int .i64 g1,.slice q1a q1m q1c,.int .i64 g2,.slice q2a q2m q2c,.int .i64 g3,.slice q3a q3m q3c,.int .i64 a,.int .i64 b,.int .i64 c] 30)).alloc (.cells #[.slice pa pm pc,.int .i64 g1,.slice p1a p1m p1c,.int .i64 g2,.slice p2a p2m p2c,.int .i64 g3,.slice p3a p3m p3c,.int .i64 a,.int .i64 b,.int .i64 c] 30)
  have z1 := ((Blk.new (w.alloc (.cells (dictC id (.slice pa pm pc) g1 (.slice p1a p1m p1c) g2 (.slice p2a p2m p2c) g3 (.slice p3a p3m p3c) a b c (.slice pxa pxm pxc)) 32)) (dictC id (.slice qa qm qc) g1 (.slice q1a q1m q1c) g2 (.slice q2a q2m q2c) g3 (.slice q3a q3m q3c) a b c (.slice qxa qxm qxc)) 32).alloc (.cells #[.slice qa qm qc,.int .i64 g1,.slice q1a q1m q1c,.int .i64 g2,.slice q2a q2m q2c,.int .i64 g3,.slice q3a q3m q3c,.int .i64 a,.int .i64 b,.int .i64 c] 30)).alloc (.cells #[.slice pa pm pc,.int .i64 g1,.slice p1a p1m p1c,.int .i64 g2,.slice p2a p2m p2c,.int .i64 g3,.slice p3a p3m p3c,.int .i64 a,.int .i64 b,.int .i64 c] 30)
  have z2 := (Blk.new ((w.alloc (.cells (dictC id (.slice pa pm pc) g1 (.slice p1a p1m p1c) g2 (.slice p2a p2m p2c) g3 (.slice p3a p3m p3c) a b c (.slice pxa pxm pxc)) 32)).alloc (.cells (dictC id (.slice qa qm qc) g1 (.slice q1a q1m q1c) g2 (.slice q2a q2m q2c) g3 (.slice q3a q3m q3c) a b c (.slice qxa qxm qxc)) 32)) #[.slice qa qm qc,.int .i64 g1,.slice q1a q1m q1c,.int .i64 g2,.slice q2a q2m q2c,.int .i64 g3,.slice q3a q3m q3c,.int .i64 a,.int .i64 b,.int .i64 c] 30).alloc (.cells #[.slice pa pm pc,.int .i64 g1,.slice p1a p1m p1c,.int .i64 g2,.slice p2a p2m p2c,.int .i64 g3,.slice p3a p3m p3c,.int .i64 a,.int .i64 b,.int .i64 c] 30)
  have z3 := Blk.new (((w.alloc (.cells (dictC id (.slice pa pm pc) g1 (.slice p1a p1m p1c) g2 (.slice p2a p2m p2c) g3 (.slice p3a p3m p3c) a b c (.slice pxa pxm pxc)) 32)).alloc (.cells (dictC id (.slice qa qm qc) g1 (.slice q1a q1m q1c) g2 (.slice q2a q2m q2c) g3 (.slice q3a q3m q3c) a b c (.slice qxa qxm qxc)) 32)).alloc (.cells #[.slice qa qm qc,.int .i64 g1,.slice q1a q1m q1c,.int .i64 g2,.slice q2a q2m q2c,.int .i64 g3,.slice q3a q3m q3c,.int .i64 a,.int .i64 b,.int .i64 c] 30)) #[.slice pa pm pc,.int .i64 g1,.slice p1a p1m p1c,.int .i64 g2,.slice p2a p2m p2c,.int .i64 g3,.slice p3a p3m p3c,.int .i64 a,.int .i64 b,.int .i64 c] 30
  have zk : Keeps w ((((w.alloc (.cells (dictC id (.slice pa pm pc) g1 (.slice p1a p1m p1c) g2 (.slice p2a p2m p2c) g3 (.slice p3a p3m p3c) a b c (.slice pxa pxm pxc)) 32)).alloc (.cells (dictC id (.slice qa qm qc) g1 (.slice q1a q1m q1c) g2 (.slice q2a q2m q2c) g3 (.slice q3a q3m q3c) a b c (.slice qxa qxm qxc)) 32)).alloc (.cells #[.slice qa qm qc,.int .i64 g1,.slice q1a q1m q1c,.int .i64 g2,.slice q2a q2m q2c,.int .i64 g3,.slice q3a q3m q3c,.int .i64 a,.int .i64 b,.int .i64 c] 30)).alloc (.cells #[.slice pa pm pc,.int .i64 g1,.slice p1a p1m p1c,.int .i64 g2,.slice p2a p2m p2c,.int .i64 g3,.slice p3a p3m p3c,.int .i64 a,.int .i64 b,.int .i64 c] 30)) [] := ((((Keeps.refl w []).alloc _).alloc _).alloc _).alloc _
  simp only [World.size_alloc] at z1 z2 z3
  go_wp2_with fail
  refine (HSI.out _ zk.drew).mono ?_
  rintro e w1 ⟨rfl,m1,rfl⟩
  have zc := (z3.drew).drewN m1
  have zd := (z2.drew).drewN m1
  replace z0 := (z0.drew).drewN m1
  replace z1 := (z1.drew).drewN m1
  replace zk := (zk.drew).drewN m1
  clear z2 z3 HSI
  generalize World.drewN _ m1 = w1 at *
  obtain ⟨a1,a2,a3,a4,a5,a6,a7,a8,a9⟩ := ctx_cells zc
  obtain ⟨b1,b2,b3,b4,b5,b6,b7,b8,b9⟩ := ctx_cells zd
  have d1 := dict_cell11 z0
  have d2 := dict_cell11 z1
  go_wp2_with fail
  refine (HT1.out _ zk).mono ?_
  rintro e w2 ⟨rfl,kk⟩
  replace zc := zc.keeps kk (by simp)
  replace zd := zd.keeps kk (by simp)
  replace z0 := z0.keeps kk (by simp)
  replace z1 := z1.keeps kk (by simp)
  replace zk := zk.then kk
  clear kk a1 a2 a3 a4 a5 a6 a7 a8 a9 b1 b2 b3 b4 b5 b6 b7 b8 b9 d1 d2 HT1
  obtain ⟨a1,a2,a3,a4,a5,a6,a7,a8,a9⟩ := ctx_cells zc
  obtain ⟨b1,b2,b3,b4,b5,b6,b7,b8,b9⟩ := ctx_cells zd
  have d1 := dict_cell11 z0
  have d2 := dict_cell11 z1
  go_wp2_with fail
  refine (HT2.out _ zk).mono ?_
  rintro e w3 ⟨rfl,kk⟩
  replace zc := zc.keeps kk (by simp)
  replace zd := zd.keeps kk (by simp)
  replace z0 := z0.keeps kk (by simp)
  replace z1 := z1.keeps kk (by simp)
  replace zk := zk.then kk
  clear kk a1 a2 a3 a4 a5 a6 a7 a8 a9 b1 b2 b3 b4 b5 b6 b7 b8 b9 d1 d2 HT2
  obtain ⟨a1,a2,a3,a4,a5,a6,a7,a8,a9⟩ := ctx_cells zc
  obtain ⟨b1,b2,b3,b4,b5,b6,b7,b8,b9⟩ := ctx_cells zd
  have d1 := dict_cell11 z0
  have d2 := dict_cell11 z1
  go_wp2_with fail
  refine (HT3.out _ zk).mono ?_
  rintro e w4 ⟨rfl,kk⟩
  replace zc := zc.keeps kk (by simp)
  replace zd := zd.keeps kk (by simp)
  replace z0 := z0.keeps kk (by simp)
  replace z1 := z1.keeps kk (by simp)
  replace zk := zk.then kk
  clear kk a1 a2 a3 a4 a5 a6 a7 a8 a9 b1 b2 b3 b4 b5 b6 b7 b8 b9 d1 d2 HT3
  obtain ⟨a1,a2,a3,a4,a5,a6,a7,a8,a9⟩ := ctx_cells zc
  obtain ⟨b1,b2,b3,b4,b5,b6,b7,b8,b9⟩ := ctx_cells zd
  have d1 := dict_cell11 z0
  have d2 := dict_cell11 z1
  have s1 := HS1.out _ zk
  have s2 := HS2.out _ zk
  go_wp2_with fail
  go_ret
  exact ⟨rfl,zk⟩
end

section
open Go.RowKit
end

section
open Go.RowKit

theorem ctx_size : (Tryz.prog.info? 30).map (·.size) = some 10 := by kernel_rfl
theorem load_ctx {w : World} {b : Nat} {cs : Array Value} (h : Blk w b cs 30) (hs : cs.size = 10) : (loadVar 30 ⟨b,0,none⟩).run Tryz.prog w = .ok (.agg cs) w :=
 load_blk h Tryz.underlying30 rfl (by rw [ctx_size,hs])

set_option maxHeartbeats 2000000 in
theorem init_nil (w : World) : Calls Tryz.prog 20 #[.pointer none] w fun e w' => e = .returned (.agg #[nilV,.int .i64 0,nilV,.int .i64 0,nilV,.int .i64 0,nilV,.int .i64 1,.int .i64 4,.int .i64 8]) ∧ Keeps w w' [] := by
 have hb := Blk.new w #[nilV,.int .i64 0,nilV,.int .i64 0,nilV,.int .i64 0,nilV,.int .i64 0,.int .i64 0,.int .i64 0] 30
 have k0 := (Keeps.refl w []).alloc (.cells #[nilV,.int .i64 0,nilV,.int .i64 0,nilV,.int .i64 0,nilV,.int .i64 0,.int .i64 0,.int .i64 0] 30)
 go_enter Tryz.func20,Tryz.ntmps20
 go_wp2_with (first
  | (go_at_call 32;(refine (first_any _).mono ?_;rintro e w2 ⟨rfl,k2⟩;have hb2 := hb.keeps k2 (by simp);have kw2 := k0.then k2))
  | (refine wpList_store_blk rfl 30 _ _ rfl w.heap.size #[nilV,.int .i64 0,nilV,.int .i64 0,nilV,.int .i64 0,nilV,.int .i64 1,.int .i64 4,.int .i64 8] rfl rfl _ _ hb2 ctx_size rfl (by simp [Value.oneCell']) ?_;intro W3 hb3 k3))
 refine bodyPost_ret (v := .agg #[nilV,.int .i64 0,nilV,.int .i64 0,nilV,.int .i64 0,nilV,.int .i64 1,.int .i64 4,.int .i64 8]) (res_cell rfl rfl (load_ctx hb3 rfl)) rfl ⟨rfl,kw2.trans k3 (fun j hj hlt => by simp at hj;omega)⟩

theorem kc_at (w : World) (C : Array Value) (n c g : Nat) (hg : w.heap.size = g) : (convert 22 22 (.slice (some ⟨g,0,none⟩) n c)).run Tryz.prog (w.alloc (.cells C 5)) = .ok (.slice (some ⟨g,0,none⟩) n c) (w.alloc (.cells C 5 (C.size,C.size + 1))) := by
 subst hg
 exact Lib.run_convert_bytes_const (P := Tryz.prog) w 22 5 C n c Tryz.underlying22 Tryz.underlying5

theorem dict_cells {w : World} {p : Nat} {v0 v1 v2 v3 v4 v5 v6 v7 v8 v9 va vb : Value} {T : TypeId} (h : Blk w p #[v0,v1,v2,v3,v4,v5,v6,v7,v8,v9,va,vb] T) :
  w.cell? ⟨p,0,none⟩ = some v0 ∧ w.cell? ⟨p,1,none⟩ = some v1 ∧ w.cell? ⟨p,2,none⟩ = some v2 ∧ w.cell? ⟨p,3,none⟩ = some v3 ∧ w.cell? ⟨p,4,none⟩ = some v4 ∧ w.cell? ⟨p,5,none⟩ = some v5 ∧ w.cell? ⟨p,6,none⟩ = some v6 ∧ w.cell? ⟨p,7,none⟩ = some v7 ∧ w.cell? ⟨p,8,none⟩ = some v8 ∧ w.cell? ⟨p,9,none⟩ = some v9 ∧ w.cell? ⟨p,10,none⟩ = some va ∧ w.cell? ⟨p,11,none⟩ = some vb :=
 ⟨h.cell 0,h.cell 1,h.cell 2,h.cell 3,h.cell 4,h.cell 5,h.cell 6,h.cell 7,h.cell 8,h.cell 9,h.cell 10,h.cell 11⟩
theorem ctx_cell0 {w : World} {p : Nat} {v0 v1 v2 v3 v4 v5 v6 v7 v8 v9 : Value} {T : TypeId} (h : Blk w p #[v0,v1,v2,v3,v4,v5,v6,v7,v8,v9] T) : w.cell? ⟨p,0,none⟩ = some v0 := h.cell 0

theorem get_a (w : World) (v : Value) (hv : RdI .u8 w v [97,98,99]) : Calls Tryz.prog 24 #[v] w fun e w' => ∃ x,e = .returned (.tuple #[.agg (rawC x),.int .i64 0]) ∧ RdI .u8 w' x [97,98,99] ∧ Fresh w.heap.size x ∧ Keeps w w' [] :=
 get_raw v _ w hv (by decide) (by decide) (by decide)
theorem get_b (w : World) (v : Value) (hv : RdI .u8 w v [80,77,84,68]) : Calls Tryz.prog 24 #[v] w fun e w' => e = .returned (.tuple #[.agg zeroC,.int .i64 3]) ∧ Keeps w w' [] :=
 get_bad v _ 3 w hv (by decide) (by decide) (by decide) (fun W p v' h => full_short p 0 v' _ W h (by decide))
theorem get_c (w : World) (v : Value) (hv : RdI .u8 w v [80,77,84,68,0,0,0,0]) : Calls Tryz.prog 24 #[v] w fun e w' => e = .returned (.tuple #[.agg zeroC,.int .i64 9]) ∧ Keeps w w' [] :=
 get_bad v _ 9 w hv (by decide) (by decide) (by decide) (fun W p v' h => full_zero p 0 v' _ W h (by decide) (by decide))

set_option maxHeartbeats 8000000 in
theorem known_true (w : World) : Calls Tryz.prog 11 #[] w fun e w' => e = .returned (.bool true) ∧ Keeps w w' [] := by
 have kc := fun (w : World) (C : Array Value) (n c : Nat) => Lib.run_convert_bytes_const (P := Tryz.prog) w 22 5 C n c Tryz.underlying22 Tryz.underlying5
 have h3q := fun w1 => eq_three 1 4 8 1 4 8 w1
 simp only [BEq.rfl,Bool.and_true] at h3q
 have k0 := Keeps.refl w []
 go_enter Tryz.func11,Tryz.ntmps11
 go_wp2_with fail
 refine (get_a _ _ (RdI.lit _ _ rfl rfl (Nat.le_refl _))).mono ?_
 rintro e w1 ⟨x1,rfl,rx,-,k1⟩
 obtain ⟨xa,xm,xc,rfl,-,-⟩ := rx.form
 replace k0 := (k0.alloc _).then k1
 clear k1
 have kc2 := fun (C : Array Value) (n c : Nat) => kc_at (w1.alloc (.cells (rawC (.slice xa xm xc)) 32)) C n c (w1.heap.size + 1) (by simp)
 have bd := Blk.new w1 (rawC (.slice xa xm xc)) 32
 go_wp2_with fail
 have kx := ((Keeps.refl w1 []).alloc (.cells (rawC (.slice xa xm xc)) 32))
 have rl := RdI.lit (k := .u8) (w1.alloc (.cells (rawC (.slice xa xm xc)) 32)) (l := [80,77,84,68]) (T := 5) (cs := #[.int .u8 80,.int .u8 77,.int .u8 84,.int .u8 68]) (4,4 + 1) rfl (n := 4) (cp := 4) rfl (Nat.le_refl _)
 simp only [World.size_alloc] at rl
 refine (get_b _ _ rl).mono ?_
 rintro e w2 ⟨rfl,k2⟩
 replace kx := (kx.alloc (.cells #[.int .u8 80,.int .u8 77,.int .u8 84,.int .u8 68] 5 (4,4 + 1))).then k2
 replace k0 := k0.then kx
 replace rx := rx.keeps kx
 replace bd := (bd.alloc (.cells #[.int .u8 80,.int .u8 77,.int .u8 84,.int .u8 68] 5 (4,4 + 1))).keeps k2 (by simp)
 have hlb := bd.lt
 clear k2 kx rl kc2
 generalize w1.heap.size = G at *
 have kc3 := fun (C : Array Value) (n c : Nat) => kc_at (w2.alloc (.cells zeroC 32)) C n c (w2.heap.size + 1) (by simp)
 go_wp2_with fail
 have kx := ((Keeps.refl w2 []).alloc (.cells zeroC 32))
 have rl := RdI.lit (k := .u8) (w2.alloc (.cells zeroC 32)) (l := [80,77,84,68,0,0,0,0]) (T := 5) (cs := #[.int .u8 80,.int .u8 77,.int .u8 84,.int .u8 68,.int .u8 0,.int .u8 0,.int .u8 0,.int .u8 0]) (8,8 + 1) rfl (n := 8) (cp := 8) rfl (Nat.le_refl _)
 simp only [World.size_alloc] at rl
 refine (get_c _ _ rl).mono ?_
 rintro e w3 ⟨rfl,k2⟩
 replace kx := (kx.alloc (.cells #[.int .u8 80,.int .u8 77,.int .u8 84,.int .u8 68,.int .u8 0,.int .u8 0,.int .u8 0,.int .u8 0] 5 (8,8 + 1))).then k2
 replace k0 := k0.then kx
 replace rx := rx.keeps kx
 replace bd := bd.keeps kx (by simp)
 clear k2 kx rl kc3
 go_wp2_with fail
 have kx := ((Keeps.refl w3 []).alloc (.cells zeroC 32))
 refine (init_nil _).mono ?_
 rintro e w4 ⟨rfl,k2⟩
 replace kx := kx.then k2
 replace k0 := k0.then kx
 replace rx := rx.keeps kx
 replace bd := bd.keeps kx (by simp)
 clear k2 kx
 go_wp2_with fail
 have z1 := bd.alloc (.cells #[nilV,.int .i64 0,nilV,.int .i64 0,nilV,.int .i64 0,nilV,.int .i64 1,.int .i64 4,.int .i64 8] 30)
 have z2 := Blk.new w4 #[nilV,.int .i64 0,nilV,.int .i64 0,nilV,.int .i64 0,nilV,.int .i64 1,.int .i64 4,.int .i64 8] 30
 replace rx := rx.keeps ((Keeps.refl w4 []).alloc (.cells #[nilV,.int .i64 0,nilV,.int .i64 0,nilV,.int .i64 0,nilV,.int .i64 1,.int .i64 4,.int .i64 8] 30))
 replace k0 := k0.alloc (.cells #[nilV,.int .i64 0,nilV,.int .i64 0,nilV,.int .i64 0,nilV,.int .i64 1,.int .i64 4,.int .i64 8] 30)
 clear bd hlb
 generalize w4.alloc (.cells #[nilV,.int .i64 0,nilV,.int .i64 0,nilV,.int .i64 0,nilV,.int .i64 1,.int .i64 4,.int .i64 8] 30) = W5 at *
 generalize w4.heap.size = H at *
 have zk := Keeps.refl W5 []
 have kc5 : ∀ (C : Array Value) (n c : Nat),(convert 22 22 (.slice (some ⟨W5.heap.size,0,none⟩) n c)).run Tryz.prog (W5.alloc (.cells C 5)).drew = .ok (.slice (some ⟨W5.heap.size,0,none⟩) n c) (W5.alloc (.cells C 5 (C.size,C.size + 1))).drew := fun C n c => kc_at W5.drew C n c W5.heap.size rfl
 refine wp_region_held_drew (S := (fun w' => Blk w' G (rawC (.slice xa xm xc)) 32 ∧ Blk w' H #[nilV,.int .i64 0,nilV,.int .i64 0,nilV,.int .i64 0,nilV,.int .i64 1,.int .i64 4,.int .i64 8] 30 ∧ Keeps W5 w' [])) (by kernel_rfl) ⟨z1.drew,z2.drew,zk.drew⟩ (fun hHeld => ?_)
 refine takeM 0 rfl (by intro w9 hSw;clear hSw;go_simp;(try with_reducible rfl)) ?_
 try simp only [Act.put,stA,stZ,stS]
 refine takeM 1 rfl (by intro w9 hSw;clear hSw;go_simp;(try with_reducible rfl)) ?_
 try simp only [Act.put,stA,stZ,stS]
 refine takeM 2 rfl (by intro w9 hSw;clear hSw;go_simp;(try with_reducible rfl)) ?_
 try simp only [Act.put,stA,stZ,stS]
 refine takeM 3 rfl (by intro w9 hSw;obtain ⟨hS1,-,-⟩ := hSw;obtain ⟨q0,q1,q2,q3,q4,q5,q6,q7,q8,q9,qa,qb⟩ := dict_cells hS1;clear hS1;go_simp;(try with_reducible rfl)) ?_
 try simp only [Act.put,stA,stZ,stS]
 refine callL (i := 4) rfl (by kernel_rfl) (fun Kont hK => ?_)
 go_simp
 refine hK.out _ _ ?_ (fun hHeld => ?_)
 ·(exact ⟨hHeld.1.alloc _,hHeld.2.1.alloc _,hHeld.2.2.alloc _⟩)
 clear hK Kont
 refine callL (i := 5) rfl (by kernel_rfl) (fun Kont hK => ?_)
 go_simp
 refine hK.out _ _ ?_ (fun hHeld => ?_)
 ·(exact ⟨z1.drew.alloc _,z2.drew.alloc _,zk.drew.alloc _⟩)
 clear hK Kont
 refine callL (i := 6) rfl (by kernel_rfl) (fun Kont hK => ?_)
 go_simp
 refine (r_plain _ [97,98,99] _ (RdI.lit W5.drew (3,3 + 1) rfl rfl (Nat.le_refl _)) (by decide)).mono ?_;rintro e w6 ⟨x6,rfl,r6,-,kk⟩;obtain ⟨ya,ym,yc,rfl,-,-⟩ := r6.form
 go_wp2_with fail
 refine hK.out _ _ ?_ (fun hHeld => ?_)
 ·(exact ⟨hHeld.1.keeps kk (by simp),hHeld.2.1.keeps kk (by simp),hHeld.2.2.then kk⟩)
 clear hK Kont
 refine callL (i := 7) rfl (by kernel_rfl) (fun Kont hK => ?_)
 go_simp
 refine (dsame_yes 0 0 0 0 1 4 8 _ _ _ _ _ _ _ _ _ _ [] [] [] [] [97,98,99] _ .nil .nil .nil .nil .nil .nil .nil .nil (rx.keeps hHeld.2.2) r6 (by simp) (by simp) (by simp) (by simp)).mono ?_;rintro e w7 ⟨rfl,kk⟩
 go_wp2_with fail
 refine hK.out _ _ ?_ (fun hHeld => ?_)
 ·(exact ⟨hHeld.1.keeps kk (by simp),hHeld.2.1.keeps kk (by simp),hHeld.2.2.then kk⟩)
 clear hK Kont
 refine takeM 8 rfl (by intro w9 hSw;obtain ⟨-,hS2,-⟩ := hSw;have q0 := ctx_cell0 hS2;obtain ⟨q1,q2,q3,q4,q5,q6,q7,q8,q9⟩ := ctx_cells hS2;clear hS2;go_simp;(try with_reducible rfl)) ?_
 try simp only [Act.put,stA,stZ,stS]
 refine takeM 9 rfl (by intro w9 hSw;obtain ⟨-,hS2,-⟩ := hSw;have q0 := ctx_cell0 hS2;obtain ⟨q1,q2,q3,q4,q5,q6,q7,q8,q9⟩ := ctx_cells hS2;clear hS2;go_simp;(try with_reducible rfl)) ?_
 try simp only [Act.put,stA,stZ,stS]
 refine takeM 10 rfl (by intro w9 hSw;obtain ⟨-,hS2,-⟩ := hSw;have q0 := ctx_cell0 hS2;obtain ⟨q1,q2,q3,q4,q5,q6,q7,q8,q9⟩ := ctx_cells hS2;clear hS2;go_simp;(try with_reducible rfl)) ?_
 try simp only [Act.put,stA,stZ,stS]
 refine takeM 11 rfl (by intro w9 hSw;obtain ⟨-,hS2,-⟩ := hSw;have q0 := ctx_cell0 hS2;obtain ⟨q1,q2,q3,q4,q5,q6,q7,q8,q9⟩ := ctx_cells hS2;clear hS2;go_simp;(try with_reducible rfl)) ?_
 try simp only [Act.put,stA,stZ,stS]
 refine takeM 12 rfl (by intro w9 hSw;obtain ⟨-,hS2,-⟩ := hSw;have q0 := ctx_cell0 hS2;obtain ⟨q1,q2,q3,q4,q5,q6,q7,q8,q9⟩ := ctx_cells hS2;clear hS2;go_simp;(try with_reducible rfl)) ?_
 try simp only [Act.put,stA,stZ,stS]
 refine takeM 13 rfl (by intro w9 hSw;obtain ⟨-,hS2,-⟩ := hSw;have q0 := ctx_cell0 hS2;obtain ⟨q1,q2,q3,q4,q5,q6,q7,q8,q9⟩ := ctx_cells hS2;clear hS2;go_simp;(try with_reducible rfl)) ?_
 try simp only [Act.put,stA,stZ,stS]
 refine takeM 14 rfl (by intro w9 hSw;obtain ⟨-,hS2,-⟩ := hSw;have q0 := ctx_cell0 hS2;obtain ⟨q1,q2,q3,q4,q5,q6,q7,q8,q9⟩ := ctx_cells hS2;clear hS2;go_simp;(try with_reducible rfl)) ?_
 try simp only [Act.put,stA,stZ,stS]
 refine takeM 15 rfl (by intro w9 hSw;obtain ⟨-,hS2,-⟩ := hSw;have q0 := ctx_cell0 hS2;obtain ⟨q1,q2,q3,q4,q5,q6,q7,q8,q9⟩ := ctx_cells hS2;clear hS2;go_simp;(try with_reducible rfl)) ?_
 try simp only [Act.put,stA,stZ,stS]
 refine takeM 16 rfl (by intro w9 hSw;obtain ⟨-,hS2,-⟩ := hSw;have q0 := ctx_cell0 hS2;obtain ⟨q1,q2,q3,q4,q5,q6,q7,q8,q9⟩ := ctx_cells hS2;clear hS2;go_simp;(try with_reducible rfl)) ?_
 try simp only [Act.put,stA,stZ,stS]
 refine takeM 17 rfl (by intro w9 hSw;obtain ⟨-,hS2,-⟩ := hSw;have q0 := ctx_cell0 hS2;obtain ⟨q1,q2,q3,q4,q5,q6,q7,q8,q9⟩ := ctx_cells hS2;clear hS2;go_simp;(try with_reducible rfl)) ?_
 try simp only [Act.put,stA,stZ,stS]
 refine takeM 18 rfl (by intro w9 hSw;obtain ⟨-,hS2,-⟩ := hSw;have q0 := ctx_cell0 hS2;obtain ⟨q1,q2,q3,q4,q5,q6,q7,q8,q9⟩ := ctx_cells hS2;clear hS2;go_simp;(try with_reducible rfl)) ?_
 try simp only [Act.put,stA,stZ,stS]
 refine takeM 19 rfl (by intro w9 hSw;obtain ⟨-,hS2,-⟩ := hSw;have q0 := ctx_cell0 hS2;obtain ⟨q1,q2,q3,q4,q5,q6,q7,q8,q9⟩ := ctx_cells hS2;clear hS2;go_simp;(try with_reducible rfl)) ?_
 try simp only [Act.put,stA,stZ,stS]
 refine takeM 20 rfl (by intro w9 hSw;obtain ⟨-,hS2,-⟩ := hSw;have q0 := ctx_cell0 hS2;obtain ⟨q1,q2,q3,q4,q5,q6,q7,q8,q9⟩ := ctx_cells hS2;clear hS2;go_simp;(try with_reducible rfl)) ?_
 try simp only [Act.put,stA,stZ,stS]
 refine takeM 21 rfl (by intro w9 hSw;obtain ⟨-,hS2,-⟩ := hSw;have q0 := ctx_cell0 hS2;obtain ⟨q1,q2,q3,q4,q5,q6,q7,q8,q9⟩ := ctx_cells hS2;clear hS2;go_simp;(try with_reducible rfl)) ?_
 try simp only [Act.put,stA,stZ,stS]
 refine takeM 22 rfl (by intro w9 hSw;obtain ⟨-,hS2,-⟩ := hSw;have q0 := ctx_cell0 hS2;obtain ⟨q1,q2,q3,q4,q5,q6,q7,q8,q9⟩ := ctx_cells hS2;clear hS2;go_simp;(try with_reducible rfl)) ?_
 try simp only [Act.put,stA,stZ,stS]
 refine takeM 23 rfl (by intro w9 hSw;obtain ⟨-,hS2,-⟩ := hSw;have q0 := ctx_cell0 hS2;obtain ⟨q1,q2,q3,q4,q5,q6,q7,q8,q9⟩ := ctx_cells hS2;clear hS2;go_simp;(try with_reducible rfl)) ?_
 try simp only [Act.put,stA,stZ,stS]
 refine takeM 24 rfl (by intro w9 hSw;obtain ⟨-,hS2,-⟩ := hSw;have q0 := ctx_cell0 hS2;obtain ⟨q1,q2,q3,q4,q5,q6,q7,q8,q9⟩ := ctx_cells hS2;clear hS2;go_simp;(try with_reducible rfl)) ?_
 try simp only [Act.put,stA,stZ,stS]
 refine takeM 25 rfl (by intro w9 hSw;obtain ⟨-,hS2,-⟩ := hSw;have q0 := ctx_cell0 hS2;obtain ⟨q1,q2,q3,q4,q5,q6,q7,q8,q9⟩ := ctx_cells hS2;clear hS2;go_simp;(try with_reducible rfl)) ?_
 try simp only [Act.put,stA,stZ,stS]
 refine takeM 26 rfl (by intro w9 hSw;obtain ⟨-,hS2,-⟩ := hSw;have q0 := ctx_cell0 hS2;obtain ⟨q1,q2,q3,q4,q5,q6,q7,q8,q9⟩ := ctx_cells hS2;clear hS2;go_simp;(try with_reducible rfl)) ?_
 try simp only [Act.put,stA,stZ,stS]
 refine takeM 27 rfl (by intro w9 hSw;obtain ⟨-,hS2,-⟩ := hSw;have q0 := ctx_cell0 hS2;obtain ⟨q1,q2,q3,q4,q5,q6,q7,q8,q9⟩ := ctx_cells hS2;clear hS2;go_simp;(try with_reducible rfl)) ?_
 try simp only [Act.put,stA,stZ,stS]
 refine takeM 28 rfl (by intro w9 hSw;obtain ⟨-,hS2,-⟩ := hSw;have q0 := ctx_cell0 hS2;obtain ⟨q1,q2,q3,q4,q5,q6,q7,q8,q9⟩ := ctx_cells hS2;clear hS2;go_simp;(try with_reducible rfl)) ?_
 try simp only [Act.put,stA,stZ,stS]
 refine takeM 29 rfl (by intro w9 hSw;obtain ⟨-,hS2,-⟩ := hSw;have q0 := ctx_cell0 hS2;obtain ⟨q1,q2,q3,q4,q5,q6,q7,q8,q9⟩ := ctx_cells hS2;clear hS2;go_simp;(try with_reducible rfl)) ?_
 try simp only [Act.put,stA,stZ,stS]
 refine takeM 30 rfl (by intro w9 hSw;obtain ⟨-,hS2,-⟩ := hSw;have q0 := ctx_cell0 hS2;obtain ⟨q1,q2,q3,q4,q5,q6,q7,q8,q9⟩ := ctx_cells hS2;clear hS2;go_simp;(try with_reducible rfl)) ?_
 try simp only [Act.put,stA,stZ,stS]
 refine takeM 31 rfl (by intro w9 hSw;obtain ⟨-,hS2,-⟩ := hSw;have q0 := ctx_cell0 hS2;obtain ⟨q1,q2,q3,q4,q5,q6,q7,q8,q9⟩ := ctx_cells hS2;clear hS2;go_simp;(try with_reducible rfl)) ?_
 try simp only [Act.put,stA,stZ,stS]
 refine takeM 32 rfl (by intro w9 hSw;obtain ⟨-,hS2,-⟩ := hSw;have q0 := ctx_cell0 hS2;obtain ⟨q1,q2,q3,q4,q5,q6,q7,q8,q9⟩ := ctx_cells hS2;clear hS2;go_simp;(try with_reducible rfl)) ?_
 try simp only [Act.put,stA,stZ,stS]
 refine takeM 33 rfl (by intro w9 hSw;obtain ⟨-,hS2,-⟩ := hSw;have q0 := ctx_cell0 hS2;obtain ⟨q1,q2,q3,q4,q5,q6,q7,q8,q9⟩ := ctx_cells hS2;clear hS2;go_simp;(try with_reducible rfl)) ?_
 try simp only [Act.put,stA,stZ,stS]
 refine takeM 34 rfl (by intro w9 hSw;obtain ⟨-,hS2,-⟩ := hSw;have q0 := ctx_cell0 hS2;obtain ⟨q1,q2,q3,q4,q5,q6,q7,q8,q9⟩ := ctx_cells hS2;clear hS2;go_simp;(try with_reducible rfl)) ?_
 try simp only [Act.put,stA,stZ,stS]
 refine takeM 35 rfl (by intro w9 hSw;obtain ⟨-,hS2,-⟩ := hSw;have q0 := ctx_cell0 hS2;obtain ⟨q1,q2,q3,q4,q5,q6,q7,q8,q9⟩ := ctx_cells hS2;clear hS2;go_simp;(try with_reducible rfl)) ?_
 try simp only [Act.put,stA,stZ,stS]
 refine takeM 36 rfl (by intro w9 hSw;obtain ⟨-,hS2,-⟩ := hSw;have q0 := ctx_cell0 hS2;obtain ⟨q1,q2,q3,q4,q5,q6,q7,q8,q9⟩ := ctx_cells hS2;clear hS2;go_simp;(try with_reducible rfl)) ?_
 try simp only [Act.put,stA,stZ,stS]
 refine wpAnyH_done (by kernel_rfl) ?_ _
 go_wp2_with fail
 go_ret
 exact ⟨rfl,k0.then hHeld.2.2⟩
end

section
open Go.RowKit

theorem RdI.past {k : IntKind} {w w' : World} {v : Value} {l : List Int} {b g : Nat} (h : RdI k w v l) (hf : Fresh b v) (kk : Keeps w w' [g]) (hg : g < b) : RdI k w' v l :=
 h.keepsS kk (fun ad n cp e _ hm => by have := hf ad n cp e;simp at hm;omega)
theorem own_freshI {w : World} {base : Nat} {e : TypeId} {v : Value} {n : Nat} {xs : List Value} (h : w.ownsRow base e 1 v n xs) : Fresh base v := fun ad n c e => by
 subst e
 exact (h.lt ad.block rfl).1
theorem tbl_size : (Tryz.prog.info? 27).map (·.size) = some 2 := by kernel_rfl
theorem load_tbl {w : World} {b : Nat} {cs : Array Value} (h : Blk w b cs 27) (hs : cs.size = 2) : (loadVar 27 ⟨b,0,none⟩).run Tryz.prog w = .ok (.agg cs) w :=
 load_blk h Tryz.underlying27 rfl (by rw [tbl_size,hs])
end

end Go.Proofs.YtcmagccfagijlaaGreat
