/-
  Walks over the reference of package dict: none, May, whether valid or not. (Printed by mkEg.py.)
  Walks over package dict: slices.Equal over numbers, norm.Equal, whether equal or not.
  Walks over package dict: Equal, whether equal or not.
  Walks over the laws of package dict: few.
  What the laws on dictionaries lean on, said of a dictionary in one word: Put, Get, Valid, Equal, the reference's Same and May; the comparison of two byte slices.
  The theorem of dictionaries, what is encoded is decoded: its walk. (Printed by mkGs.py.)
  An argument that is a dictionary: what its reading as data says of its cells.
  The theorem of dictionaries, what is encoded is decoded: for every input it returns true and its argument reads as it read before.
-/
import Derived.Test.YtcmagccfagijlaaGreatQ27
import Derived.Test.YtcmagccfagijlaaGreatQ3
import Derived.Test.YtcmagccfagijlaaGreatQ28
import Derived.Test.YtcmagccfagijlaaGreatQ20
import Derived.Test.YtcmagccfagijlaaGreatQ7
import Derived.Test.YtcmagccfagijlaaGreatQ1
import Derived.Test.YtcmagccfagijlaaGreatQ6
namespace Go.Proofs.YtcmagccfagijlaaGreat
set_option linter.unusedVariables false
set_option linter.unusedSimpArgs false
set_option linter.unusedSectionVars false
set_option maxRecDepth 100000
section
open Go.RowKit

theorem rnone_any (g : Int) (v : Value) (l : List Int) (w : World) (hv : RdI .i64 w v l) :
  Calls Tryz.prog 44 #[.agg #[.int .i64 g,v]] w fun e w' => e = .returned (.bool (decide (g = 0 ∧ l = []))) ∧ Keeps w w' [] := by
 obtain ⟨A0,n,c,rfl,hn,-⟩ := hv.form
 have e1 : decide (l = []) = ((n : Int) == 0) := by
  rw [← len_nil,← hn,Bool.eq_iff_iff];simp
 rw [Bool.decide_and,e1]
 clear hv hn e1
 obtain ⟨R0,f0⟩ : ∃ R,(g == 0) = R := ⟨_,rfl⟩
 obtain ⟨R1,f1⟩ : ∃ R,((n : Int) == 0) = R := ⟨_,rfl⟩
 have f0' : decide (g = 0) = R0 := f0
 rw [f0',f1]
 clear f0'
 go_enter Tryz.func44,Tryz.ntmps44
 go_wp2_with fail
 all_goals
  clear f0 f1
  go_ret
  refine ⟨?_,(Keeps.refl w []).alloc _⟩
  simp_all

set_option maxHeartbeats 8000000 in
theorem rMay_raw (g1 g2 g3 a b c : Int) (t n1 n2 n3 x : Value) (T L1 L2 L3 X : List Int) (w : World) (ht : RdI .i64 w t T) (h1 : RdI .i64 w n1 L1) (h2 : RdI .i64 w n2 L2) (h3 : RdI .i64 w n3 L3) (hx : RdI .u8 w x X) (hX : X.length ≤ 1000000) (hxb : ∀ y ∈ X,0 ≤ y ∧ y ≤ 255) :
  Calls Tryz.prog 21 #[.agg (dictC 0 t g1 n1 g2 n2 g3 n3 a b c x)] w fun e w' => e = .returned (.bool (rawB T L1 L2 L3 g1 g2 g3 a b c X)) ∧ Keeps w w' [] := by
 have HM := Lib.hid (fun w1 (k : Keeps w w1 []) => r_marked x X w1 (hx.keeps k) hxb)
 have HT1 := Lib.hid (fun w1 (k : Keeps w w1 []) => rnone_any g1 n1 L1 w1 (h1.keeps k))
 have HT2 := Lib.hid (fun w1 (k : Keeps w w1 []) => rnone_any g2 n2 L2 w1 (h2.keeps k))
 have HT3 := Lib.hid (fun w1 (k : Keeps w w1 []) => rnone_any g3 n3 L3 w1 (h3.keeps k))
 have h3q := fun w1 => eq_three a b c 1 4 8 w1
 have e3 : (a == 1 && (b == 4 && c == 8)) = decide (a = 1 ∧ b = 4 ∧ c = 8) := by
  simp only [Bool.decide_and]
  rfl
 simp only [e3] at h3q
 clear e3
 obtain ⟨pa,pm,pc,rfl,htn,-⟩ := ht.form
 obtain ⟨p1a,p1m,p1c,rfl,h1n,-⟩ := h1.form
 obtain ⟨p2a,p2m,p2c,rfl,h2n,-⟩ := h2.form
 obtain ⟨p3a,p3m,p3c,rfl,h3n,-⟩ := h3.form
 obtain ⟨pxa,pxm,pxc,rfl,hxn,-⟩ := hx.form
 have e0 : ((pm : Int) == 0) = decide (T.length = 0) := by rw [← htn,Bool.eq_iff_iff];simp
 have hlen : decide ((134217728 : Int) < (pxm : Int)) = false := by simp;omega
 rw [rawB]
 clear ht h1 h2 h3 hx htn h1n h2n h3n hxn hX hxb
 generalize decide (T.length = 0) = R0 at *
 generalize decide (g1 = 0 ∧ L1 = []) = R1 at *
 generalize decide (g2 = 0 ∧ L2 = []) = R2 at *
 generalize decide (g3 = 0 ∧ L3 = []) = R3 at *
 generalize decide (a = 1 ∧ b = 4 ∧ c = 8) = R4 at *
 generalize markB X = R5 at *
 have z0 := (Blk.new w (dictC 0 (.slice pa pm pc) g1 (.slice p1a p1m p1c) g2 (.slice p2a p2m p2c) g3 (.slice p3a p3m p3c) a b c (.slice pxa pxm pxc)) 32).alloc (.cells #[.slice pa pm pc,.int .i64 g1,.slice p1a p1m p1c,.int .i64 g2,.slice p2a p2m p2c,.int .i64 g3,.slice p3a p3m p3c,.int .i64 a,.int .i64 b,.int .i64 c] 30)
 have zc := Blk.new (w.alloc (.cells (dictC 0 (.slice pa pm pc) g1 (.slice p1a p1m p1c) g2 (.slice p2a p2m p2c) g3 (.slice p3a p3m p3c) a b c (.slice pxa pxm pxc)) 32)) #[.slice pa pm pc,.int .i64 g1,.slice p1a p1m p1c,.int .i64 g2,.slice p2a p2m p2c,.int .i64 g3,.slice p3a p3m p3c,.int .i64 a,.int .i64 b,.int .i64 c] 30
 have zk : Keeps w ((w.alloc (.cells (dictC 0 (.slice pa pm pc) g1 (.slice p1a p1m p1c) g2 (.slice p2a p2m p2c) g3 (.slice p3a p3m p3c) a b c (.slice pxa pxm pxc)) 32)).alloc (.cells #[.slice pa pm pc,.int .i64 g1,.slice p1a p1m p1c,.int .i64 g2,.slice p2a p2m p2c,.int .i64 g3,.slice p3a p3m p3c,.int .i64 a,.int .i64 b,.int .i64 c] 30)) [] := ((Keeps.refl w []).alloc _).alloc _
 simp only [World.size_alloc] at zc
 go_enter Tryz.func21,Tryz.ntmps21
 cases R0
 ·go_wp2_with fail
  go_ret
  exact ⟨by simp,zk⟩
 go_wp2_with fail
 generalize ((w.alloc (.cells (dictC 0 (.slice pa pm pc) g1 (.slice p1a p1m p1c) g2 (.slice p2a p2m p2c) g3 (.slice p3a p3m p3c) a b c (.slice pxa pxm pxc)) 32)).alloc (.cells #[.slice pa pm pc,.int .i64 g1,.slice p1a p1m p1c,.int .i64 g2,.slice p2a p2m p2c,.int .i64 g3,.slice p3a p3m p3c,.int .i64 a,.int .i64 b,.int .i64 c] 30)) = w0 at *
 have f1 := ctx_cell0 zc
 obtain ⟨a1,a2,a3,a4,a5,a6,a7,a8,a9⟩ := ctx_cells zc
 have d1 := dict_cell11 z0
 have o1 := dict_cell0 z0
 refine (HT1.out _ zk).mono ?_
 rintro e w1 ⟨rfl,kk⟩
 replace zc := zc.keeps kk (by simp)
 replace z0 := z0.keeps kk (by simp)
 replace zk := zk.then kk
 clear kk a1 a2 a3 a4 a5 a6 a7 a8 a9 d1 f1 o1
 have f1 := ctx_cell0 zc
 obtain ⟨a1,a2,a3,a4,a5,a6,a7,a8,a9⟩ := ctx_cells zc
 have d1 := dict_cell11 z0
 have o1 := dict_cell0 z0
 cases R1
 ·go_wp2_with fail
  go_ret
  exact ⟨by simp,zk⟩
 go_wp2_with fail
 refine (HT2.out _ zk).mono ?_
 rintro e w2 ⟨rfl,kk⟩
 replace zc := zc.keeps kk (by simp)
 replace z0 := z0.keeps kk (by simp)
 replace zk := zk.then kk
 clear kk a1 a2 a3 a4 a5 a6 a7 a8 a9 d1 f1 o1
 have f1 := ctx_cell0 zc
 obtain ⟨a1,a2,a3,a4,a5,a6,a7,a8,a9⟩ := ctx_cells zc
 have d1 := dict_cell11 z0
 have o1 := dict_cell0 z0
 cases R2
 ·go_wp2_with fail
  go_ret
  exact ⟨by simp,zk⟩
 go_wp2_with fail
 refine (HT3.out _ zk).mono ?_
 rintro e w3 ⟨rfl,kk⟩
 replace zc := zc.keeps kk (by simp)
 replace z0 := z0.keeps kk (by simp)
 replace zk := zk.then kk
 clear kk a1 a2 a3 a4 a5 a6 a7 a8 a9 d1 f1 o1
 have f1 := ctx_cell0 zc
 obtain ⟨a1,a2,a3,a4,a5,a6,a7,a8,a9⟩ := ctx_cells zc
 have d1 := dict_cell11 z0
 have o1 := dict_cell0 z0
 cases R3
 ·go_wp2_with fail
  go_ret
  exact ⟨by simp,zk⟩
 cases R4
 ·go_wp2_with fail
  go_ret
  exact ⟨by simp,zk⟩
 go_wp2_with fail
 refine (HM.out _ (by first | exact zk | exact zk.alloc _)).mono ?_
 rintro e w5 ⟨rfl,rfl⟩
 cases R5
 ·go_wp2_with fail
  go_ret
  exact ⟨by simp,by first | exact zk | exact zk.alloc _⟩
 ·go_wp2_with fail
  go_ret
  exact ⟨by simp,by first | exact zk | exact zk.alloc _⟩

set_option maxHeartbeats 8000000 in
theorem rMay_full (id g1 g2 g3 a b c : Int) (t n1 n2 n3 x : Value) (T L1 L2 L3 X : List Int) (w : World) (hid : id ≠ 0) (ht : RdI .i64 w t T) (h1 : RdI .i64 w n1 L1) (h2 : RdI .i64 w n2 L2) (h3 : RdI .i64 w n3 L3) (hx : RdI .u8 w x X) (hT : T.length ≤ 1000000) (hL1 : L1.length ≤ 1000000) (hL2 : L2.length ≤ 1000000) (hL3 : L3.length ≤ 1000000) (hX : X.length ≤ 1000000) (hxb : ∀ y ∈ X,0 ≤ y ∧ y ≤ 255) :
  Calls Tryz.prog 21 #[.agg (dictC id t g1 n1 g2 n2 g3 n3 a b c x)] w fun e w' => e = .returned (.bool (fullB T L1 L2 L3 g1 g2 g3 a b c X)) ∧ Keeps w w' [] := by
 rw [fullB,tblB,tblB,tblB]
 have hid0 : (id == 0) = false := by simpa using hid
 have HC := Lib.hid (fun w1 (k : Keeps w w1 []) => r_right14 t T w1 (ht.keeps k) hT)
 have HT1 := Lib.hid (fun w1 (k : Keeps w w1 []) => rmay_any g1 44 9 n1 L1 w1 (h1.keeps k) hL1 (by omega))
 have HT2 := Lib.hid (fun w1 (k : Keeps w w1 []) => rmay_any g2 28 8 n2 L2 w1 (h2.keeps k) hL2 (by omega))
 have HT3 := Lib.hid (fun w1 (k : Keeps w w1 []) => rmay_any g3 44 9 n3 L3 w1 (h3.keeps k) hL3 (by omega))
 have HTR := Lib.hid (fun w1 (k : Keeps w w1 []) => ht.keeps k)
 obtain ⟨pa,pm,pc,rfl,htn,-⟩ := ht.form
 obtain ⟨p1a,p1m,p1c,rfl,h1n,-⟩ := h1.form
 obtain ⟨p2a,p2m,p2c,rfl,h2n,-⟩ := h2.form
 obtain ⟨p3a,p3m,p3c,rfl,h3n,-⟩ := h3.form
 obtain ⟨pxa,pxm,pxc,rfl,hxn,-⟩ := hx.form
 have hxl : (X.length : Int) = (pxm : Int) := by omega
 have hlen : decide ((134217728 : Int) < (pxm : Int)) = false := by simp;omega
 have HN := Lib.hid htn
 have hpm : pm ≤ 1000000 := by omega
 rw [hxl]
 clear ht h1 h2 h3 hx h1n h2n h3n hxn hT hL1 hL2 hL3 hX hxb htn hxl
 obtain ⟨G1,d1'⟩ : ∃ R,decide (0 < g1) = R := ⟨_,rfl⟩
 obtain ⟨G2,d2'⟩ : ∃ R,decide (0 < g2) = R := ⟨_,rfl⟩
 obtain ⟨G3,d3'⟩ : ∃ R,decide (0 < g3) = R := ⟨_,rfl⟩
 have x1 : decide (g1 < 1) = !G1 := by rw [← d1',Bool.eq_iff_iff];simp;try omega
 have x2 : decide (g2 < 1) = !G2 := by rw [← d2',Bool.eq_iff_iff];simp;try omega
 have x3 : decide (g3 < 1) = !G3 := by rw [← d3',Bool.eq_iff_iff];simp;try omega
 obtain ⟨R5,e5⟩ : ∃ R,decide (8 ≤ (pxm : Int)) = R := ⟨_,rfl⟩
 have x5 : decide ((pxm : Int) < 8) = !R5 := by rw [← e5,Bool.eq_iff_iff];simp;try omega
 obtain ⟨R6,e6⟩ : ∃ R,[a,b,c].any (badR (pxm : Int)) = R := ⟨_,rfl⟩
 rw [d1',d2',d3',e5,e6]
 have E6 := Lib.hid e6
 clear d1' d2' d3' e5 e6
 generalize okN g1 L1 44 9 = K1 at *
 generalize okN g2 L2 28 8 = K2 at *
 generalize okN g3 L3 44 9 = K3 at *
 have HTL : Hid (treeL T = true → 1 < T.length) := fun h => by
  have := (treeL_iff.1 h).2.2.1
  have := usedL_len T
  omega
 obtain ⟨RY,hRY⟩ : ∃ R,decide (T.getD (T.length - 1) 0 = 0) = R := ⟨_,rfl⟩
 rw [hRY]
 have HRY := Lib.hid hRY
 clear hRY
 obtain ⟨RT,hRT⟩ : ∃ R,treeL T = R := ⟨_,rfl⟩
 rw [hRT] at HC HTL ⊢
 clear hRT hid
 have z0 := (Blk.new w (dictC id (.slice pa pm pc) g1 (.slice p1a p1m p1c) g2 (.slice p2a p2m p2c) g3 (.slice p3a p3m p3c) a b c (.slice pxa pxm pxc)) 32).alloc (.cells #[.slice pa pm pc,.int .i64 g1,.slice p1a p1m p1c,.int .i64 g2,.slice p2a p2m p2c,.int .i64 g3,.slice p3a p3m p3c,.int .i64 a,.int .i64 b,.int .i64 c] 30)
 have zc := Blk.new (w.alloc (.cells (dictC id (.slice pa pm pc) g1 (.slice p1a p1m p1c) g2 (.slice p2a p2m p2c) g3 (.slice p3a p3m p3c) a b c (.slice pxa pxm pxc)) 32)) #[.slice pa pm pc,.int .i64 g1,.slice p1a p1m p1c,.int .i64 g2,.slice p2a p2m p2c,.int .i64 g3,.slice p3a p3m p3c,.int .i64 a,.int .i64 b,.int .i64 c] 30
 have zk : Keeps w ((w.alloc (.cells (dictC id (.slice pa pm pc) g1 (.slice p1a p1m p1c) g2 (.slice p2a p2m p2c) g3 (.slice p3a p3m p3c) a b c (.slice pxa pxm pxc)) 32)).alloc (.cells #[.slice pa pm pc,.int .i64 g1,.slice p1a p1m p1c,.int .i64 g2,.slice p2a p2m p2c,.int .i64 g3,.slice p3a p3m p3c,.int .i64 a,.int .i64 b,.int .i64 c] 30)) [] := ((Keeps.refl w []).alloc _).alloc _
 simp only [World.size_alloc] at zc
 go_enter Tryz.func21,Tryz.ntmps21
 go_wp2_with fail
 generalize ((w.alloc (.cells (dictC id (.slice pa pm pc) g1 (.slice p1a p1m p1c) g2 (.slice p2a p2m p2c) g3 (.slice p3a p3m p3c) a b c (.slice pxa pxm pxc)) 32)).alloc (.cells #[.slice pa pm pc,.int .i64 g1,.slice p1a p1m p1c,.int .i64 g2,.slice p2a p2m p2c,.int .i64 g3,.slice p3a p3m p3c,.int .i64 a,.int .i64 b,.int .i64 c] 30)) = w0 at *
 have f1 := ctx_cell0 zc
 obtain ⟨a1,a2,a3,a4,a5,a6,a7,a8,a9⟩ := ctx_cells zc
 have d1 := dict_cell11 z0
 have o1 := dict_cell0 z0
 refine (HC.out _ zk).mono ?_
 rintro e w1 ⟨rfl,rfl⟩
 cases RT
 ·go_wp2_with fail
  go_ret
  exact ⟨by simp,zk⟩
 obtain ⟨m,rfl⟩ : ∃ m,pm = m + 1 := ⟨pm - 1,by have := HN.out;have := HTL.out rfl;omega⟩
 obtain ⟨y,hy⟩ : ∃ y,T[m]? = some y := ⟨_,List.getElem?_eq_getElem (by have := HN.out;omega)⟩
 obtain ⟨bb,o,rfl,hbb,hc⟩ := (HTR.out _ zk).at hy
 have hcap := (HTR.out _ zk).cap
 have HY : T.getD (T.length - 1) 0 = y := by
  rw [← HN.out,Nat.add_sub_cancel,List.getD_eq_getElem?_getD,hy];rfl
 have ey : (y == 0) = RY := by rw [← HRY.out,HY];rfl
 clear hy HY
 rcases Bool.eq_false_or_eq_true RY with rfl | rfl
 ·go_wp2_with fail
  go_ret
  exact ⟨by simp,zk⟩
 cases G2
 ·go_wp2_with fail
  go_ret
  exact ⟨by simp,zk⟩
 cases G3
 ·go_wp2_with fail
  go_ret
  exact ⟨by simp,zk⟩
 cases G1
 ·go_wp2_with fail
  go_ret
  exact ⟨by simp,zk⟩
 go_wp2_with fail
 refine (HT2.out _ zk).mono ?_
 rintro e w2 ⟨rfl,kk⟩
 replace zc := zc.keeps kk (by simp)
 replace z0 := z0.keeps kk (by simp)
 replace zk := zk.then kk
 clear kk hc hbb a1 a2 a3 a4 a5 a6 a7 a8 a9 d1 f1 o1
 have f1 := ctx_cell0 zc
 obtain ⟨a1,a2,a3,a4,a5,a6,a7,a8,a9⟩ := ctx_cells zc
 have d1 := dict_cell11 z0
 have o1 := dict_cell0 z0
 cases K2
 ·go_wp2_with fail
  go_ret
  exact ⟨by simp,zk⟩
 go_wp2_with fail
 refine (HT3.out _ zk).mono ?_
 rintro e w3 ⟨rfl,kk⟩
 replace zc := zc.keeps kk (by simp)
 replace z0 := z0.keeps kk (by simp)
 replace zk := zk.then kk
 clear kk a1 a2 a3 a4 a5 a6 a7 a8 a9 d1 f1 o1
 have f1 := ctx_cell0 zc
 obtain ⟨a1,a2,a3,a4,a5,a6,a7,a8,a9⟩ := ctx_cells zc
 have d1 := dict_cell11 z0
 have o1 := dict_cell0 z0
 cases K3
 ·go_wp2_with fail
  go_ret
  exact ⟨by simp,zk⟩
 go_wp2_with fail
 refine (HT1.out _ zk).mono ?_
 rintro e w4 ⟨rfl,kk⟩
 replace zc := zc.keeps kk (by simp)
 replace z0 := z0.keeps kk (by simp)
 replace zk := zk.then kk
 clear kk a1 a2 a3 a4 a5 a6 a7 a8 a9 d1 f1 o1
 have f1 := ctx_cell0 zc
 obtain ⟨a1,a2,a3,a4,a5,a6,a7,a8,a9⟩ := ctx_cells zc
 have d1 := dict_cell11 z0
 have o1 := dict_cell0 z0
 cases K1
 ·go_wp2_with fail
  go_ret
  exact ⟨by simp,zk⟩
 cases R5
 ·go_wp2_with fail
  go_ret
  exact ⟨by simp,zk⟩
 have hrow : ∀ k (y : Int),[a,b,c][k]? = some y → w4.cell? ⟨w.heap.size + 1,7 + k,none⟩ = some (.int .i64 y) := fun i z hz => by
  match i,hz with
  | 0,hz => simp at hz;subst hz;exact zc.cell 7
  | 1,hz => simp at hz;subst hz;exact zc.cell 8
  | 2,hz => simp at hz;subst hz;exact zc.cell 9
 have HROW := Lib.hid hrow
 clear hrow a1 a2 a3 a4 a5 a6 a7 a8 a9 f1 o1 z0 HRY HTL HTR HC HT1 HT2 HT3 x1 x2 x3
 go_wp2_with fail
 go_loopw [4] (fun s4 wr => ∃ k nd : Nat,k ≤ 3 ∧ s4 = .int .i64 k ∧ wr = w4.drewN nd ∧ Hid (∀ y ∈ [a,b,c].take k,badR pxm y = false)) (fun s4 _ => 3 - (intOf s4).toNat)
 case atStart => exact ⟨0,0,by omega,rfl,rfl,by show ∀ y ∈ _,_;simp⟩
 case round =>
  obtain ⟨k,nd,hk,rfl,rfl,hno⟩ := hrel
  by_cases hlt : k < 3
  ·obtain ⟨y,hy⟩ : ∃ y,[a,b,c][k]? = some y := ⟨_,List.getElem?_eq_getElem (by simp;omega)⟩
   have hcy := HROW.out k y hy
   have hkn : (k : Int) < 3 := by omega
   have hk0 : (0 : Int) ≤ (k : Int) := Int.natCast_nonneg _
   have HXg := Lib.hid hy
   clear hy
   obtain ⟨Q1,q1⟩ : ∃ R,decide (y < 1) = R := ⟨_,rfl⟩
   obtain ⟨Q2,q2⟩ : ∃ R,decide ((pxm : Int) < y) = R := ⟨_,rfl⟩
   have hbv : badR pxm y = (Q1 || Q2) := by rw [badR,q1,q2]
   have HBV := Lib.hid hbv
   clear hbv
   rcases Bool.eq_false_or_eq_true Q1 with rfl | rfl
   ·skip
    have FR : Hid (R6 = true) := by
     show _ = _
     rw [← E6.out]
     exact List.any_eq_true.2 ⟨y,List.mem_of_getElem? HXg.out,by rw [HBV.out];rfl⟩
    go_wp2_with fail
    go_quiet (fail)
    go_wp2_with fail
    go_ret
    exact ⟨by rw [FR.out];rfl,(zk.drewN nd).drewN _⟩
   rcases Bool.eq_false_or_eq_true Q2 with rfl | rfl
   ·skip
    have FR : Hid (R6 = true) := by
     show _ = _
     rw [← E6.out]
     exact List.any_eq_true.2 ⟨y,List.mem_of_getElem? HXg.out,by rw [HBV.out];rfl⟩
    go_wp2_with fail
    go_quiet (fail)
    go_wp2_with fail
    go_ret
    exact ⟨by rw [FR.out];rfl,(zk.drewN nd).drewN _⟩
   ·have NX : Hid (∀ z ∈ [a,b,c].take (k + 1),badR pxm z = false) := by
     show ∀ z ∈ _,_
     rw [take_next HXg.out]
     intro z hz
     rcases List.mem_append.1 hz with hz | hz
     ·exact hno.out z hz
     ·rw [List.mem_singleton.1 hz];exact HBV.out
    go_wp2_with fail
    go_quiet (fail)
    go_wp2_with fail
    go_roundw
    case rel => exact ⟨k + 1,nd + nq,by omega,by go_num,(by first | rfl | trivial | rw [World.drewN_drewN]),NX⟩
    case measure => simp [intOf];omega
  ·have : k = 3 := by omega
   subst this
   have FR : Hid (R6 = false) := by
    show _ = _
    rw [← E6.out]
    refine List.any_eq_false.2 (fun z hz => ?_)
    rw [hno.out z (by simpa using hz)]
    simp
   go_wp2_with fail
   go_ret
   exact ⟨by rw [FR.out];rfl,zk.drewN nd⟩

theorem rMay_any (id g1 g2 g3 a b c : Int) (t n1 n2 n3 x : Value) (T L1 L2 L3 X : List Int) (w : World) (ht : RdI .i64 w t T) (h1 : RdI .i64 w n1 L1) (h2 : RdI .i64 w n2 L2) (h3 : RdI .i64 w n3 L3) (hx : RdI .u8 w x X) (hT : T.length ≤ 1000000) (hL1 : L1.length ≤ 1000000) (hL2 : L2.length ≤ 1000000) (hL3 : L3.length ≤ 1000000) (hX : X.length ≤ 1000000) (hxb : ∀ y ∈ X,0 ≤ y ∧ y ≤ 255) :
  Calls Tryz.prog 21 #[.agg (dictC id t g1 n1 g2 n2 g3 n3 a b c x)] w fun e w' => e = .returned (.bool (validB id T L1 L2 L3 g1 g2 g3 a b c X)) ∧ Keeps w w' [] := by
 by_cases hid : id = 0
 ·subst hid
  rw [validB,if_pos rfl]
  exact rMay_raw g1 g2 g3 a b c t n1 n2 n3 x T L1 L2 L3 X w ht h1 h2 h3 hx hX hxb
 ·rw [validB,if_neg hid]
  exact rMay_full id g1 g2 g3 a b c t n1 n2 n3 x T L1 L2 L3 X w hid ht h1 h2 h3 hx hT hL1 hL2 hL3 hX hxb
end

section
open Go.RowKit

set_option maxHeartbeats 1000000 in
theorem sequal_any (v1 v2 : Value) (a b : List Int) (w : World) (h1 : RdI .i64 w v1 a) (h2 : RdI .i64 w v2 b) (hn : a.length ≤ 1000000) (hnb : b.length ≤ 1000000) :
  Calls Tryz.prog 59 #[v1,v2] w fun e w' => e = .returned (.bool (decide (a = b))) ∧ ∃ m,w' = w.drewN m := by
 obtain ⟨A1,n,c1,rfl,hn1,-⟩ := h1.form
 obtain ⟨A2,n2,c2,rfl,hn2,-⟩ := h2.form
 have H1 := Lib.hid h1
 have H2 := Lib.hid h2
 have HN := Lib.hid hn1
 have HN2 := Lib.hid hn2
 by_cases hne : n = n2
 ·subst hne
  have hn' : n ≤ 1000000 := by omega
  have hnn : ((n : Int) != (n : Int)) = false := by simp
  have HR : Hid (∀ r : Bool,(r = true ↔ a = b) → decide (a = b) = r) := fun r h => by cases r <;> simp_all
  generalize decide (a = b) = R at *
  clear h1 h2 hn1 hn2 hn hnb
  go_enter Tryz.func59,Tryz.ntmps59
  go_wp2_with fail
  go_loopw [13] (fun i wr => ∃ k nd : Nat,k ≤ n ∧ i = .int .i64 k ∧ wr = w.drewN nd ∧ Hid (a.take k = b.take k)) (fun i _ => n - (intOf i).toNat)
  case atStart => exact ⟨0,0,Nat.zero_le _,rfl,rfl,rfl⟩
  case round =>
   obtain ⟨k,nd,hk,rfl,rfl,ht⟩ := hrel
   by_cases hlt : k < n
   ·obtain ⟨x,hx⟩ : ∃ x,a[k]? = some x := ⟨_,List.getElem?_eq_getElem (by have := HN.out;omega)⟩
    obtain ⟨y,hy⟩ : ∃ y,b[k]? = some y := ⟨_,List.getElem?_eq_getElem (by have := HN2.out;omega)⟩
    obtain ⟨bb,o,rfl,hb,hc⟩ := H1.out.at hx
    obtain ⟨b2,o2,rfl,hb2,hc2⟩ := H2.out.at hy
    have hcap := H1.out.cap
    have hcap2 := H2.out.cap
    have hkn : (k : Int) < (n : Int) := by omega
    have hk0 : (0 : Int) ≤ (k : Int) := Int.natCast_nonneg _
    by_cases hxy : x = y
    ·have NT := Lib.hid (take_eq_next hx hy ht.out hxy)
     have g : (x != y) = false := by simpa using hxy
     clear hx hy hxy
     go_wp2_with fail
     go_quiet (fail)
     go_wp2_with fail
     go_roundw
     case rel => exact ⟨k + 1,nd + nq,by omega,by go_num,rfl,NT.out⟩
     case measure => simp [intOf];omega
    ·have FR := Lib.hid (HR.out false ⟨(fun h => by cases h),(fun h => by subst h;rw [hx] at hy;exact absurd (Option.some.inj hy) hxy)⟩)
     have g : (x != y) = true := by simpa using hxy
     clear hx hy hxy
     go_wp2_with fail
     go_quiet (fail)
     go_wp2_with fail
     go_ret
     exact ⟨by rw [FR.out];rfl,nd + nq,by rw [World.drewN_drewN]⟩
   ·have : k = n := by omega
    subst this
    have e : a = b := by
     have := ht.out
     rwa [List.take_of_length_le (by have := HN.out;omega),List.take_of_length_le (by have := HN2.out;omega)] at this
    have FR := Lib.hid (HR.out true ⟨fun _ => e,fun _ => rfl⟩)
    clear e
    go_wp2_with fail
    go_ret
    exact ⟨by rw [FR.out];rfl,_,rfl⟩
 ·have hf : decide (a = b) = false := decide_eq_false (fun h => by subst h;omega)
  have hnn : ((n : Int) != (n2 : Int)) = true := by simp;omega
  rw [hf]
  clear h1 h2 hn1 hn2 hn hnb hf
  go_enter Tryz.func59,Tryz.ntmps59
  go_wp2_with fail
  go_ret
  exact ⟨rfl,0,rfl⟩

set_option maxHeartbeats 2000000 in
theorem nequal_any (g h : Int) (v1 v2 : Value) (a b : List Int) (w : World) (h1 : RdI .i64 w v1 a) (h2 : RdI .i64 w v2 b) (hn : a.length ≤ 1000000) (hnb : b.length ≤ 1000000) :
  Calls Tryz.prog 58 #[.agg #[.int .i64 g,v1],.agg #[.int .i64 h,v2]] w fun e w' => e = .returned (.bool (decide (g = h ∧ a = b))) ∧ Keeps w w' [] := by
 have HS := Lib.hid (fun w1 (k : Keeps w w1 []) => sequal_any v1 v2 a b w1 (h1.keeps k) (h2.keeps k) hn hnb)
 obtain ⟨A1,n,c1,rfl,hn1,-⟩ := h1.form
 obtain ⟨A2,n2,c2,rfl,hn2,-⟩ := h2.form
 have hi0 : (g == h) = decide (g = h) := rfl
 rw [Bool.decide_and]
 generalize decide (g = h) = R0 at *
 generalize decide (a = b) = R1 at *
 have k0 : Keeps w ((w.alloc (.cells #[.int .i64 g,.slice A1 n c1] 27)).alloc (.cells #[.int .i64 h,.slice A2 n2 c2] 27)) [] := ((Keeps.refl w []).alloc _).alloc _
 have b1 := (Blk.new w #[.int .i64 g,.slice A1 n c1] 27).alloc (.cells #[.int .i64 h,.slice A2 n2 c2] 27)
 have b2 := Blk.new (w.alloc (.cells #[.int .i64 g,.slice A1 n c1] 27)) #[.int .i64 h,.slice A2 n2 c2] 27
 simp only [World.size_alloc] at b2
 clear h1 h2 hn1 hn2 hn hnb
 go_enter Tryz.func58,Tryz.ntmps58
 cases R0
 ·go_wp2_with fail
  go_ret
  exact ⟨rfl,k0⟩
 ·go_wp2_with fail
  refine (HS.out _ k0).mono ?_
  rintro e w1 ⟨rfl,m1,rfl⟩
  go_wp2_with fail
  go_ret
  exact ⟨by simp,k0.drewN _⟩
end

section
open Go.RowKit

set_option maxHeartbeats 8000000 in
theorem dequal_any (id id' g1 g1' g2 g2' g3 g3' a a' b b' c c' : Int) (t t' n1 n1' n2 n2' n3 n3' x x' : Value) (T T' L1 L1' L2 L2' L3 L3' X X' : List Int) (w : World)
  (ht : RdI .i64 w t T) (ht' : RdI .i64 w t' T') (h1 : RdI .i64 w n1 L1) (h1' : RdI .i64 w n1' L1') (h2 : RdI .i64 w n2 L2) (h2' : RdI .i64 w n2' L2') (h3 : RdI .i64 w n3 L3) (h3' : RdI .i64 w n3' L3') (hx : RdI .u8 w x X) (hx' : RdI .u8 w x' X')
  (hT : T.length ≤ 1000000) (hL1 : L1.length ≤ 1000000) (hL2 : L2.length ≤ 1000000) (hL3 : L3.length ≤ 1000000) (hT' : T'.length ≤ 1000000) (hL1' : L1'.length ≤ 1000000) (hL2' : L2'.length ≤ 1000000) (hL3' : L3'.length ≤ 1000000) (hX : ∀ n ∈ X,0 ≤ n ∧ n ≤ 255) (hX' : ∀ n ∈ X',0 ≤ n ∧ n ≤ 255) :
  Calls Tryz.prog 27 #[.agg (dictC id t g1 n1 g2 n2 g3 n3 a b c x),.agg (dictC id' t' g1' n1' g2' n2' g3' n3' a' b' c' x')] w fun e w' => e = .returned (.bool (decide (id = id' ∧ T = T' ∧ (g1 = g1' ∧ L1 = L1') ∧ (g2 = g2' ∧ L2 = L2') ∧ (g3 = g3' ∧ L3 = L3') ∧ (a = a' ∧ b = b' ∧ c = c') ∧ X = X'))) ∧ Keeps w w' [] := by
 have HSI := Lib.hid (fun w1 (k : Keeps w w1 []) => sequal_any t t' T T' w1 (ht.keeps k) (ht'.keeps k) hT hT')
 have HT1 := Lib.hid (fun w1 (k : Keeps w w1 []) => nequal_any g1 g1' n1 n1' L1 L1' w1 (h1.keeps k) (h1'.keeps k) hL1 hL1')
 have HT2 := Lib.hid (fun w1 (k : Keeps w w1 []) => nequal_any g2 g2' n2 n2' L2 L2' w1 (h2.keeps k) (h2'.keeps k) hL2 hL2')
 have HT3 := Lib.hid (fun w1 (k : Keeps w w1 []) => nequal_any g3 g3' n3 n3' L3 L3' w1 (h3.keeps k) (h3'.keeps k) hL3 hL3')
 have HBE := Lib.hid (fun w1 (k : Keeps w w1 []) => bequal_any x x' X X' w1 (hx.keeps k) (hx'.keeps k) hX hX')
 have h3q := fun w1 => eq_three a b c a' b' c' w1
 have e3 : (a == a' && (b == b' && c == c')) = decide (a = a' ∧ b = b' ∧ c = c') := by
  simp only [Bool.decide_and]
  rfl
 have hi0 : (id == id') = decide (id = id') := rfl
 simp only [e3] at h3q
 rw [decide_and_seven]
 clear e3
 generalize decide (id = id') = R0 at *
 generalize decide (T = T') = R1 at *
 generalize decide (g1 = g1' ∧ L1 = L1') = R2 at *
 generalize decide (g2 = g2' ∧ L2 = L2') = R3 at *
 generalize decide (g3 = g3' ∧ L3 = L3') = R4 at *
 generalize decide (a = a' ∧ b = b' ∧ c = c') = R5 at *
 generalize decide (X = X') = R6 at *
 obtain ⟨pa,pm,pc,rfl,-,-⟩ := ht.form
 obtain ⟨qa,qm,qc,rfl,-,-⟩ := ht'.form
 obtain ⟨p1a,p1m,p1c,rfl,-,-⟩ := h1.form
 obtain ⟨q1a,q1m,q1c,rfl,-,-⟩ := h1'.form
 obtain ⟨p2a,p2m,p2c,rfl,-,-⟩ := h2.form
 obtain ⟨q2a,q2m,q2c,rfl,-,-⟩ := h2'.form
 obtain ⟨p3a,p3m,p3c,rfl,-,-⟩ := h3.form
 obtain ⟨q3a,q3m,q3c,rfl,-,-⟩ := h3'.form
 obtain ⟨pxa,pxm,pxc,rfl,-,-⟩ := hx.form
 obtain ⟨qxa,qxm,qxc,rfl,-,-⟩ := hx'.form
 clear ht ht' h1 h1' h2 h2' h3 h3' hx hx' hT hL1 hL2 hL3 hT' hL1' hL2' hL3' hX hX'
 go_enter Tryz.func27,Tryz.ntmps27
 go_wp2_with fail
 go_region
 ·have z0 := (((Blk.new w (dictC id (.slice pa pm pc) g1 (.slice p1a p1m p1c) g2 (.slice p2a p2m p2c) g3 (.slice p3a p3m p3c) a b c (.slice pxa pxm pxc)) 32).alloc (.cells (dictC id' (.slice qa qm qc) g1' (.slice q1a q1m q1c) g2' (.slice q2a q2m q2c) g3' (.slice q3a q3m q3c) a' b' c' (.slice qxa qxm qxc)) 32)).alloc (.cells #[.slice pa pm pc,.int .i64 g1,.slice p1a p1m p1c,.int .i64 g2,.slice p2a p2m p2c,.int .i64 g3,.slice p3a p3m p3c,.int .i64 a,.int .i64 b,.int .i64 c] 30)).alloc (.cells #[.slice qa qm qc,.int .i64 g1',.slice q1a q1m q1c,.int .i64 g2',.slice q2a q2m q2c,.int .i64 g3',.slice q3a q3m q3c,.int .i64 a',.int .i64 b',.int .i64 c'] 30)
  have z1 := ((Blk.new (w.alloc (.cells (dictC id (.slice pa pm pc) g1 (.slice p1a p1m p1c) g2 (.slice p2a p2m p2c) g3 (.slice p3a p3m p3c) a b c (.slice pxa pxm pxc)) 32)) (dictC id' (.slice qa qm qc) g1' (.slice q1a q1m q1c) g2' (.slice q2a q2m q2c) g3' (.slice q3a q3m q3c) a' b' c' (.slice qxa qxm qxc)) 32).alloc (.cells #[.slice pa pm pc,.int .i64 g1,.slice p1a p1m p1c,.int .i64 g2,.slice p2a p2m p2c,.int .i64 g3,.slice p3a p3m p3c,.int .i64 a,.int .i64 b,.int .i64 c] 30)).alloc (.cells #[.slice qa qm qc,.int .i64 g1',.slice q1a q1m q1c,.int .i64 g2',.slice q2a q2m q2c,.int .i64 g3',.slice q3a q3m q3c,.int .i64 a',.int .i64 b',.int .i64 c'] 30)
  have z2 := (Blk.new ((w.alloc (.cells (dictC id (.slice pa pm pc) g1 (.slice p1a p1m p1c) g2 (.slice p2a p2m p2c) g3 (.slice p3a p3m p3c) a b c (.slice pxa pxm pxc)) 32)).alloc (.cells (dictC id' (.slice qa qm qc) g1' (.slice q1a q1m q1c) g2' (.slice q2a q2m q2c) g3' (.slice q3a q3m q3c) a' b' c' (.slice qxa qxm qxc)) 32)) #[.slice pa pm pc,.int .i64 g1,.slice p1a p1m p1c,.int .i64 g2,.slice p2a p2m p2c,.int .i64 g3,.slice p3a p3m p3c,.int .i64 a,.int .i64 b,.int .i64 c] 30).alloc (.cells #[.slice qa qm qc,.int .i64 g1',.slice q1a q1m q1c,.int .i64 g2',.slice q2a q2m q2c,.int .i64 g3',.slice q3a q3m q3c,.int .i64 a',.int .i64 b',.int .i64 c'] 30)
  have z3 := Blk.new (((w.alloc (.cells (dictC id (.slice pa pm pc) g1 (.slice p1a p1m p1c) g2 (.slice p2a p2m p2c) g3 (.slice p3a p3m p3c) a b c (.slice pxa pxm pxc)) 32)).alloc (.cells (dictC id' (.slice qa qm qc) g1' (.slice q1a q1m q1c) g2' (.slice q2a q2m q2c) g3' (.slice q3a q3m q3c) a' b' c' (.slice qxa qxm qxc)) 32)).alloc (.cells #[.slice pa pm pc,.int .i64 g1,.slice p1a p1m p1c,.int .i64 g2,.slice p2a p2m p2c,.int .i64 g3,.slice p3a p3m p3c,.int .i64 a,.int .i64 b,.int .i64 c] 30)) #[.slice qa qm qc,.int .i64 g1',.slice q1a q1m q1c,.int .i64 g2',.slice q2a q2m q2c,.int .i64 g3',.slice q3a q3m q3c,.int .i64 a',.int .i64 b',.int .i64 c'] 30
  have zk : Keeps w ((((w.alloc (.cells (dictC id (.slice pa pm pc) g1 (.slice p1a p1m p1c) g2 (.slice p2a p2m p2c) g3 (.slice p3a p3m p3c) a b c (.slice pxa pxm pxc)) 32)).alloc (.cells (dictC id' (.slice qa qm qc) g1' (.slice q1a q1m q1c) g2' (.slice q2a q2m q2c) g3' (.slice q3a q3m q3c) a' b' c' (.slice qxa qxm qxc)) 32)).alloc (.cells #[.slice pa pm pc,.int .i64 g1,.slice p1a p1m p1c,.int .i64 g2,.slice p2a p2m p2c,.int .i64 g3,.slice p3a p3m p3c,.int .i64 a,.int .i64 b,.int .i64 c] 30)).alloc (.cells #[.slice qa qm qc,.int .i64 g1',.slice q1a q1m q1c,.int .i64 g2',.slice q2a q2m q2c,.int .i64 g3',.slice q3a q3m q3c,.int .i64 a',.int .i64 b',.int .i64 c'] 30)) [] := ((((Keeps.refl w []).alloc _).alloc _).alloc _).alloc _
  simp only [World.size_alloc] at z1 z2 z3
  generalize ((((w.alloc (.cells (dictC id (.slice pa pm pc) g1 (.slice p1a p1m p1c) g2 (.slice p2a p2m p2c) g3 (.slice p3a p3m p3c) a b c (.slice pxa pxm pxc)) 32)).alloc (.cells (dictC id' (.slice qa qm qc) g1' (.slice q1a q1m q1c) g2' (.slice q2a q2m q2c) g3' (.slice q3a q3m q3c) a' b' c' (.slice qxa qxm qxc)) 32)).alloc (.cells #[.slice pa pm pc,.int .i64 g1,.slice p1a p1m p1c,.int .i64 g2,.slice p2a p2m p2c,.int .i64 g3,.slice p3a p3m p3c,.int .i64 a,.int .i64 b,.int .i64 c] 30)).alloc (.cells #[.slice qa qm qc,.int .i64 g1',.slice q1a q1m q1c,.int .i64 g2',.slice q2a q2m q2c,.int .i64 g3',.slice q3a q3m q3c,.int .i64 a',.int .i64 b',.int .i64 c'] 30)) = w0 at *
  have zc := z2
  have zd := z3
  clear z2 z3
  replace z0 := z0.drew
  replace z1 := z1.drew
  replace zc := zc.drew
  replace zd := zd.drew
  replace zk := zk.drew
  have f1 := ctx_cell0 zc
  have f2 := ctx_cell0 zd
  obtain ⟨a1,a2,a3,a4,a5,a6,a7,a8,a9⟩ := ctx_cells zc
  obtain ⟨b1,b2,b3,b4,b5,b6,b7,b8,b9⟩ := ctx_cells zd
  have d1 := dict_cell11 z0
  have d2 := dict_cell11 z1
  have o1 := dict_cell0 z0
  have o2 := dict_cell0 z1
  go_wp2_with fail
  refine (HT1.out _ zk).mono ?_
  rintro e w1 ⟨rfl,kk⟩
  replace zc := zc.keeps kk (by simp)
  replace zd := zd.keeps kk (by simp)
  replace z0 := z0.keeps kk (by simp)
  replace z1 := z1.keeps kk (by simp)
  replace zk := zk.then kk
  clear kk a1 a2 a3 a4 a5 a6 a7 a8 a9 b1 b2 b3 b4 b5 b6 b7 b8 b9 d1 d2 f1 f2 o1 o2 HT1
  have f1 := ctx_cell0 zc
  have f2 := ctx_cell0 zd
  obtain ⟨a1,a2,a3,a4,a5,a6,a7,a8,a9⟩ := ctx_cells zc
  obtain ⟨b1,b2,b3,b4,b5,b6,b7,b8,b9⟩ := ctx_cells zd
  have d1 := dict_cell11 z0
  have d2 := dict_cell11 z1
  have o1 := dict_cell0 z0
  have o2 := dict_cell0 z1
  cases R2
  ·cases R0
   ·go_wp2_with fail
    go_ret
    exact ⟨by simp,zk⟩
   ·go_wp2_with fail
    go_ret
    exact ⟨by simp,zk⟩
  go_wp2_with fail
  refine (HT2.out _ zk).mono ?_
  rintro e w2 ⟨rfl,kk⟩
  replace zc := zc.keeps kk (by simp)
  replace zd := zd.keeps kk (by simp)
  replace z0 := z0.keeps kk (by simp)
  replace z1 := z1.keeps kk (by simp)
  replace zk := zk.then kk
  clear kk a1 a2 a3 a4 a5 a6 a7 a8 a9 b1 b2 b3 b4 b5 b6 b7 b8 b9 d1 d2 f1 f2 o1 o2 HT2
  have f1 := ctx_cell0 zc
  have f2 := ctx_cell0 zd
  obtain ⟨a1,a2,a3,a4,a5,a6,a7,a8,a9⟩ := ctx_cells zc
  obtain ⟨b1,b2,b3,b4,b5,b6,b7,b8,b9⟩ := ctx_cells zd
  have d1 := dict_cell11 z0
  have d2 := dict_cell11 z1
  have o1 := dict_cell0 z0
  have o2 := dict_cell0 z1
  cases R3
  ·cases R0
   ·go_wp2_with fail
    go_ret
    exact ⟨by simp,zk⟩
   ·go_wp2_with fail
    go_ret
    exact ⟨by simp,zk⟩
  go_wp2_with fail
  refine (HT3.out _ zk).mono ?_
  rintro e w3 ⟨rfl,kk⟩
  replace zc := zc.keeps kk (by simp)
  replace zd := zd.keeps kk (by simp)
  replace z0 := z0.keeps kk (by simp)
  replace z1 := z1.keeps kk (by simp)
  replace zk := zk.then kk
  clear kk a1 a2 a3 a4 a5 a6 a7 a8 a9 b1 b2 b3 b4 b5 b6 b7 b8 b9 d1 d2 f1 f2 o1 o2 HT3
  have f1 := ctx_cell0 zc
  have f2 := ctx_cell0 zd
  obtain ⟨a1,a2,a3,a4,a5,a6,a7,a8,a9⟩ := ctx_cells zc
  obtain ⟨b1,b2,b3,b4,b5,b6,b7,b8,b9⟩ := ctx_cells zd
  have d1 := dict_cell11 z0
  have d2 := dict_cell11 z1
  have o1 := dict_cell0 z0
  have o2 := dict_cell0 z1
  cases R4
  ·cases R0
   ·go_wp2_with fail
    go_ret
    exact ⟨by simp,zk⟩
   ·go_wp2_with fail
    go_ret
    exact ⟨by simp,zk⟩
  cases R0
  ·go_wp2_with fail
   go_ret
   exact ⟨by simp,zk⟩
  go_wp2_with fail
  refine (HSI.out _ zk).mono ?_
  rintro e w4 ⟨rfl,m1,rfl⟩
  replace zc := zc.drewN m1
  replace zd := zd.drewN m1
  replace z0 := z0.drewN m1
  replace z1 := z1.drewN m1
  replace zk := zk.drewN m1
  clear a1 a2 a3 a4 a5 a6 a7 a8 a9 b1 b2 b3 b4 b5 b6 b7 b8 b9 d1 d2 f1 f2 o1 o2 HSI
  generalize World.drewN _ m1 = w4 at *
  have f1 := ctx_cell0 zc
  have f2 := ctx_cell0 zd
  obtain ⟨a1,a2,a3,a4,a5,a6,a7,a8,a9⟩ := ctx_cells zc
  obtain ⟨b1,b2,b3,b4,b5,b6,b7,b8,b9⟩ := ctx_cells zd
  have d1 := dict_cell11 z0
  have d2 := dict_cell11 z1
  have o1 := dict_cell0 z0
  have o2 := dict_cell0 z1
  cases R1
  ·go_wp2_with fail
   go_ret
   exact ⟨by simp,zk⟩
  cases R5
  ·go_wp2_with fail
   go_ret
   exact ⟨by simp,zk⟩
  go_wp2_with fail
  refine (HBE.out _ zk).mono ?_
  rintro e w5 ⟨rfl,rfl⟩
  go_wp2_with fail
  go_ret
  exact ⟨by simp,zk⟩
 ·have z0 := (((Blk.new w (dictC id (.slice pa pm pc) g1 (.slice p1a p1m p1c) g2 (.slice p2a p2m p2c) g3 (.slice p3a p3m p3c) a b c (.slice pxa pxm pxc)) 32).alloc (.cells (dictC id' (.slice qa qm qc) g1' (.slice q1a q1m q1c) g2' (.slice q2a q2m q2c) g3' (.slice q3a q3m q3c) a' b' c' (.slice qxa qxm qxc)) 32)).alloc (.cells #[.slice qa qm qc,.int .i64 g1',.slice q1a q1m q1c,.int .i64 g2',.slice q2a q2m q2c,.int .i64 g3',.slice q3a q3m q3c,.int .i64 a',.int .i64 b',.int .i64 c'] 30)).alloc (.cells #[.slice pa pm pc,.int .i64 g1,.slice p1a p1m p1c,.int .i64 g2,.slice p2a p2m p2c,.int .i64 g3,.slice p3a p3m p3c,.int .i64 a,.int .i64 b,.int .i64 c] 30)
  have z1 := ((Blk.new (w.alloc (.cells (dictC id (.slice pa pm pc) g1 (.slice p1a p1m p1c) g2 (.slice p2a p2m p2c) g3 (.slice p3a p3m p3c) a b c (.slice pxa pxm pxc)) 32)) (dictC id' (.slice qa qm qc) g1' (.slice q1a q1m q1c) g2' (.slice q2a q2m q2c) g3' (.slice q3a q3m q3c) a' b' c' (.slice qxa qxm qxc)) 32).alloc (.cells #[.slice qa qm qc,.int .i64 g1',.slice q1a q1m q1c,.int .i64 g2',.slice q2a q2m q2c,.int .i64 g3',.slice q3a q3m q3c,.int .i64 a',.int .i64 b',.int .i64 c'] 30)).alloc (.cells #[.slice pa pm pc,.int .i64 g1,.slice p1a p1m p1c,.int .i64 g2,.slice p2a p2m p2c,.int .i64 g3,.slice p3a p3m p3c,.int .i64 a,.int .i64 b,.int .i64 c] 30)
  have z2 := (Blk.new ((w.alloc (.cells (dictC id (.slice pa pm pc) g1 (.slice p1a p1m p1c) g2 (.slice p2a p2m p2c) g3 (.slice p3a p3m p3c) a b c (.slice pxa pxm pxc)) 32)).alloc (.cells (dictC id' (.slice qa qm qc) g1' (.slice q1a q1m q1c) g2' (.slice q2a q2m q2c) g3' (.slice q3a q3m q3c) a' b' c' (.slice qxa qxm qxc)) 32)) #[.slice qa qm qc,.int .i64 g1',.slice q1a q1m q1c,.int .i64 g2',.slice q2a q2m q2c,.int .i64 g3',.slice q3a q3m q3c,.int .i64 a',.int .i64 b',.int .i64 c'] 30).alloc (.cells #[.slice pa pm pc,.int .i64 g1,.slice p1a p1m p1c,.int .i64 g2,.slice p2a p2m p2c,.int .i64 g3,.slice p3a p3m p3c,.int .i64 a,.int .i64 b,.int .i64 c] 30)
  have z3 := Blk.new (((w.alloc (.cells (dictC id (.slice pa pm pc) g1 (.slice p1a p1m p1c) g2 (.slice p2a p2m p2c) g3 (.slice p3a p3m p3c) a b c (.slice pxa pxm pxc)) 32)).alloc (.cells (dictC id' (.slice qa qm qc) g1' (.slice q1a q1m q1c) g2' (.slice q2a q2m q2c) g3' (.slice q3a q3m q3c) a' b' c' (.slice qxa qxm qxc)) 32)).alloc (.cells #[.slice qa qm qc,.int .i64 g1',.slice q1a q1m q1c,.int .i64 g2',.slice q2a q2m q2c,.int .i64 g3',.slice q3a q3m q3c,.int .i64 a',.int .i64 b',.int .i64 c'] 30)) #[.slice pa pm pc,.int .i64 g1,.slice p1a p1m p1c,.int .i64 g2,.slice p2a p2m p2c,.int .i64 g3,.slice p3a p3m p3c,.int .i64 a,.int .i64 b,.int .i64 c] 30
  have zk : Keeps w ((((w.alloc (.cells (dictC id (.slice pa pm pc) g1 (.slice p1a p1m p1c) g2 (.slice p2a p2m p2c) g3 (.slice p3a p3m p3c) a b c (.slice pxa pxm pxc)) 32)).alloc (.cells (dictC id' (.slice qa qm qc) g1' (.slice q1a q1m q1c) g2' (.slice q2a q2m q2c) g3' (.slice q3a q3m q3c) a' b' c' (.slice qxa qxm qxc)) 32)).alloc (.cells #[.slice qa qm qc,.int .i64 g1',.slice q1a q1m q1c,.int .i64 g2',.slice q2a q2m q2c,.int .i64 g3',.slice q3a q3m q3c,.int .i64 a',.int .i64 b',.int .i64 c'] 30)).alloc (.cells #[.slice pa pm pc,.int .i64 g1,.slice p1a p1m p1c,.int .i64 g2,.slice p2a p2m p2c,.int .i64 g3,.slice p3a p3m p3c,.int .i64 a,.int .i64 b,.int .i64 c] 30)) [] := ((((Keeps.refl w []).alloc _).alloc _).alloc _).alloc _
  simp only [World.size_alloc] at z1 z2 z3
  generalize ((((w.alloc (.cells (dictC id (.slice pa pm pc) g1 (.slice p1a p1m p1c) g2 (.slice p2a p2m p2c) g3 (.slice p3a p3m p3c) a b c (.slice pxa pxm pxc)) 32)).alloc (.cells (dictC id' (.slice qa qm qc) g1' (.slice q1a q1m q1c) g2' (.slice q2a q2m q2c) g3' (.slice q3a q3m q3c) a' b' c' (.slice qxa qxm qxc)) 32)).alloc (.cells #[.slice qa qm qc,.int .i64 g1',.slice q1a q1m q1c,.int .i64 g2',.slice q2a q2m q2c,.int .i64 g3',.slice q3a q3m q3c,.int .i64 a',.int .i64 b',.int .i64 c'] 30)).alloc (.cells #[.slice pa pm pc,.int .i64 g1,.slice p1a p1m p1c,.int .i64 g2,.slice p2a p2m p2c,.int .i64 g3,.slice p3a p3m p3c,.int .i64 a,.int .i64 b,.int .i64 c] 30)) = w0 at *
  have zc := z3
  have zd := z2
  clear z2 z3
  replace z0 := z0.drew
  replace z1 := z1.drew
  replace zc := zc.drew
  replace zd := zd.drew
  replace zk := zk.drew
  have f1 := ctx_cell0 zc
  have f2 := ctx_cell0 zd
  obtain ⟨a1,a2,a3,a4,a5,a6,a7,a8,a9⟩ := ctx_cells zc
  obtain ⟨b1,b2,b3,b4,b5,b6,b7,b8,b9⟩ := ctx_cells zd
  have d1 := dict_cell11 z0
  have d2 := dict_cell11 z1
  have o1 := dict_cell0 z0
  have o2 := dict_cell0 z1
  go_wp2_with fail
  refine (HT1.out _ zk).mono ?_
  rintro e w1 ⟨rfl,kk⟩
  replace zc := zc.keeps kk (by simp)
  replace zd := zd.keeps kk (by simp)
  replace z0 := z0.keeps kk (by simp)
  replace z1 := z1.keeps kk (by simp)
  replace zk := zk.then kk
  clear kk a1 a2 a3 a4 a5 a6 a7 a8 a9 b1 b2 b3 b4 b5 b6 b7 b8 b9 d1 d2 f1 f2 o1 o2 HT1
  have f1 := ctx_cell0 zc
  have f2 := ctx_cell0 zd
  obtain ⟨a1,a2,a3,a4,a5,a6,a7,a8,a9⟩ := ctx_cells zc
  obtain ⟨b1,b2,b3,b4,b5,b6,b7,b8,b9⟩ := ctx_cells zd
  have d1 := dict_cell11 z0
  have d2 := dict_cell11 z1
  have o1 := dict_cell0 z0
  have o2 := dict_cell0 z1
  cases R2
  ·cases R0
   ·go_wp2_with fail
    go_ret
    exact ⟨by simp,zk⟩
   ·go_wp2_with fail
    go_ret
    exact ⟨by simp,zk⟩
  go_wp2_with fail
  refine (HT2.out _ zk).mono ?_
  rintro e w2 ⟨rfl,kk⟩
  replace zc := zc.keeps kk (by simp)
  replace zd := zd.keeps kk (by simp)
  replace z0 := z0.keeps kk (by simp)
  replace z1 := z1.keeps kk (by simp)
  replace zk := zk.then kk
  clear kk a1 a2 a3 a4 a5 a6 a7 a8 a9 b1 b2 b3 b4 b5 b6 b7 b8 b9 d1 d2 f1 f2 o1 o2 HT2
  have f1 := ctx_cell0 zc
  have f2 := ctx_cell0 zd
  obtain ⟨a1,a2,a3,a4,a5,a6,a7,a8,a9⟩ := ctx_cells zc
  obtain ⟨b1,b2,b3,b4,b5,b6,b7,b8,b9⟩ := ctx_cells zd
  have d1 := dict_cell11 z0
  have d2 := dict_cell11 z1
  have o1 := dict_cell0 z0
  have o2 := dict_cell0 z1
  cases R3
  ·cases R0
   ·go_wp2_with fail
    go_ret
    exact ⟨by simp,zk⟩
   ·go_wp2_with fail
    go_ret
    exact ⟨by simp,zk⟩
  go_wp2_with fail
  refine (HT3.out _ zk).mono ?_
  rintro e w3 ⟨rfl,kk⟩
  replace zc := zc.keeps kk (by simp)
  replace zd := zd.keeps kk (by simp)
  replace z0 := z0.keeps kk (by simp)
  replace z1 := z1.keeps kk (by simp)
  replace zk := zk.then kk
  clear kk a1 a2 a3 a4 a5 a6 a7 a8 a9 b1 b2 b3 b4 b5 b6 b7 b8 b9 d1 d2 f1 f2 o1 o2 HT3
  have f1 := ctx_cell0 zc
  have f2 := ctx_cell0 zd
  obtain ⟨a1,a2,a3,a4,a5,a6,a7,a8,a9⟩ := ctx_cells zc
  obtain ⟨b1,b2,b3,b4,b5,b6,b7,b8,b9⟩ := ctx_cells zd
  have d1 := dict_cell11 z0
  have d2 := dict_cell11 z1
  have o1 := dict_cell0 z0
  have o2 := dict_cell0 z1
  cases R4
  ·cases R0
   ·go_wp2_with fail
    go_ret
    exact ⟨by simp,zk⟩
   ·go_wp2_with fail
    go_ret
    exact ⟨by simp,zk⟩
  cases R0
  ·go_wp2_with fail
   go_ret
   exact ⟨by simp,zk⟩
  go_wp2_with fail
  refine (HSI.out _ zk).mono ?_
  rintro e w4 ⟨rfl,m1,rfl⟩
  replace zc := zc.drewN m1
  replace zd := zd.drewN m1
  replace z0 := z0.drewN m1
  replace z1 := z1.drewN m1
  replace zk := zk.drewN m1
  clear a1 a2 a3 a4 a5 a6 a7 a8 a9 b1 b2 b3 b4 b5 b6 b7 b8 b9 d1 d2 f1 f2 o1 o2 HSI
  generalize World.drewN _ m1 = w4 at *
  have f1 := ctx_cell0 zc
  have f2 := ctx_cell0 zd
  obtain ⟨a1,a2,a3,a4,a5,a6,a7,a8,a9⟩ := ctx_cells zc
  obtain ⟨b1,b2,b3,b4,b5,b6,b7,b8,b9⟩ := ctx_cells zd
  have d1 := dict_cell11 z0
  have d2 := dict_cell11 z1
  have o1 := dict_cell0 z0
  have o2 := dict_cell0 z1
  cases R1
  ·go_wp2_with fail
   go_ret
   exact ⟨by simp,zk⟩
  cases R5
  ·go_wp2_with fail
   go_ret
   exact ⟨by simp,zk⟩
  go_wp2_with fail
  refine (HBE.out _ zk).mono ?_
  rintro e w5 ⟨rfl,rfl⟩
  go_wp2_with fail
  go_ret
  exact ⟨by simp,zk⟩
end

section
open Go.RowKit

def fewB (T L1 L2 L3 X : List Int) : Bool := decide (X.length ≤ 3000 ∧ T.length ≤ 300 ∧ L1.length ≤ 600 ∧ L2.length ≤ 600 ∧ L3.length ≤ 600)
theorem fewB_iff {T L1 L2 L3 X : List Int} : fewB T L1 L2 L3 X = true ↔ X.length ≤ 3000 ∧ T.length ≤ 300 ∧ L1.length ≤ 600 ∧ L2.length ≤ 600 ∧ L3.length ≤ 600 := by simp [fewB]

set_option maxHeartbeats 4000000 in
theorem few_any (id g1 g2 g3 a b c : Int) (t n1 n2 n3 x : Value) (T L1 L2 L3 X : List Int) (w : World) (ht : RdI .i64 w t T) (h1 : RdI .i64 w n1 L1) (h2 : RdI .i64 w n2 L2) (h3 : RdI .i64 w n3 L3) (hx : RdI .u8 w x X) :
  Calls Tryz.prog 18 #[.agg (dictC id t g1 n1 g2 n2 g3 n3 a b c x)] w fun e w' => e = .returned (.bool (fewB T L1 L2 L3 X)) ∧ Keeps w w' [] := by
 obtain ⟨pa,pm,pc,rfl,l0,-⟩ := ht.form
 obtain ⟨p1a,p1m,p1c,rfl,l1,-⟩ := h1.form
 obtain ⟨p2a,p2m,p2c,rfl,l2,-⟩ := h2.form
 obtain ⟨p3a,p3m,p3c,rfl,l3,-⟩ := h3.form
 obtain ⟨pxa,pxm,pxc,rfl,l4,-⟩ := hx.form
 have hF : fewB T L1 L2 L3 X = (decide ((pxm : Int) ≤ 3000) && (decide ((pm : Int) ≤ 300) && (decide ((p1m : Int) ≤ 600) && (decide ((p2m : Int) ≤ 600) && decide ((p3m : Int) ≤ 600))))) := by
  have c0 : decide (X.length ≤ 3000) = decide ((pxm : Int) ≤ 3000) := decide_eq_decide.2 (by omega)
  have c1 : decide (T.length ≤ 300) = decide ((pm : Int) ≤ 300) := decide_eq_decide.2 (by omega)
  have c2 : decide (L1.length ≤ 600) = decide ((p1m : Int) ≤ 600) := decide_eq_decide.2 (by omega)
  have c3 : decide (L2.length ≤ 600) = decide ((p2m : Int) ≤ 600) := decide_eq_decide.2 (by omega)
  have c4 : decide (L3.length ≤ 600) = decide ((p3m : Int) ≤ 600) := decide_eq_decide.2 (by omega)
  simp only [fewB,Bool.decide_and,c0,c1,c2,c3,c4]
 rw [hF]
 clear hF ht h1 h2 h3 hx l0 l1 l2 l3 l4
 obtain ⟨R0,e0⟩ : ∃ R,decide ((pxm : Int) ≤ 3000) = R := ⟨_,rfl⟩
 obtain ⟨R1,e1⟩ : ∃ R,decide ((pm : Int) ≤ 300) = R := ⟨_,rfl⟩
 obtain ⟨R2,e2⟩ : ∃ R,decide ((p1m : Int) ≤ 600) = R := ⟨_,rfl⟩
 obtain ⟨R3,e3⟩ : ∃ R,decide ((p2m : Int) ≤ 600) = R := ⟨_,rfl⟩
 obtain ⟨R4,e4⟩ : ∃ R,decide ((p3m : Int) ≤ 600) = R := ⟨_,rfl⟩
 rw [e0,e1,e2,e3,e4]
 go_enter Tryz.func18,Tryz.ntmps18
 go_wp2_with fail
 all_goals
  clear e0 e1 e2 e3 e4
  go_ret
  refine ⟨?_,((Keeps.refl w []).alloc _).alloc _⟩
  simp_all
end

section
open Go.RowKit

theorem putA_len {D : DD} (hv : vD D = true) (hX : D.X.length ≤ 134217728) : (putA D).length ≤ D.X.length + 2700 := by
 unfold putA
 split
 ·omega
 ·rename_i hid
  exact (putF_len hid hv hX).1
theorem putA_byte {D : DD} (hv : vD D = true) (hX : ∀ x ∈ D.X,0 ≤ x ∧ x ≤ 255) : ∀ x ∈ putA D,0 ≤ x ∧ x ≤ 255 := by
 unfold putA
 split
 ·exact hX
 ·rename_i hid
  exact putF_byte ((vD_full hid).1 hv).1 hX
theorem sumN_ge {l : List Int} (h : ∀ n ∈ l,-1 ≤ n) : ∀ x ∈ l,x ≤ sumN l := by
 induction l with
 | nil => intro x hx;cases hx
 | cons y l ih =>
  intro x hx
  have h2 := stN_nonneg (h y (by simp))
  have h3 := sumN_nonneg (l := l) (fun n hn => h n (by simp [hn]))
  simp only [sumN]
  rcases List.mem_cons.1 hx with rfl | hx
  ·have : x ≤ stN x := by unfold stN;split <;> omega
   omega
  ·have := ih (fun n hn => h n (by simp [hn])) x hx
   omega
theorem tblB_bounds {g : Int} {L : List Int} {sy lg : Int} (hlg : lg ≤ 9) (h : tblB g L sy lg = true) : ∀ x ∈ L,-9223372036854775808 ≤ x ∧ x ≤ 9223372036854775807 := by
 obtain ⟨a1,a2,a3,a4,a5,a6,a7⟩ := tblB_iff.1 h
 intro x hx
 have h1 := sumN_ge a6 x hx
 have h2 := a6 x hx
 have h9 : 2 ^ g.toNat ≤ 2 ^ 9 := Nat.pow_le_pow_right (by decide) (by omega)
 have h8 : (2 : Int) ^ g.toNat = ((2 ^ g.toNat : Nat) : Int) := by simp
 rw [show (2 : Nat) ^ 9 = 512 by decide] at h9
 rw [a7,h8] at h1
 omega
structure GoodD (D : DD) : Prop where
 valid : vD D = true
 id : 0 ≤ D.id ∧ D.id < 4294967296
 byte : ∀ x ∈ D.X,0 ≤ x ∧ x ≤ 255
 len : D.X.length ≤ 50000
theorem GoodD.lens {D : DD} (h : GoodD D) : D.T.length ≤ 256 ∧ D.L1.length ≤ 44 ∧ D.L2.length ≤ 44 ∧ D.L3.length ≤ 44 := vD_lenP h.valid
theorem GoodD.bounds {D : DD} (h : GoodD D) : (∀ x ∈ D.L1,-9223372036854775808 ≤ x ∧ x ≤ 9223372036854775807) ∧ (∀ x ∈ D.L2,-9223372036854775808 ≤ x ∧ x ≤ 9223372036854775807) ∧ (∀ x ∈ D.L3,-9223372036854775808 ≤ x ∧ x ≤ 9223372036854775807) := by
 by_cases hid : D.id = 0
 ·obtain ⟨-,⟨-,h2⟩,⟨-,h3⟩,⟨-,h4⟩,-⟩ := (vD_raw hid).1 h.valid
  rw [h2,h3,h4];simp
 ·obtain ⟨-,-,h2,h3,h4,-⟩ := (vD_full hid).1 h.valid
  exact ⟨tblB_bounds (by decide) h4,tblB_bounds (by decide) h2,tblB_bounds (by decide) h3⟩
theorem GoodD.enc {D : DD} (h : GoodD D) : (∀ x ∈ putA D,0 ≤ x ∧ x ≤ 255) ∧ (putA D).length ≤ 60000 ∧ getA (putA D) = .ok D := by
 have h1 := putA_len h.valid (by have := h.len;omega)
 have h2 := h.len
 exact ⟨putA_byte h.valid h.byte,by omega,getA_putA h.id h.valid (by omega)⟩
theorem goodD_got {B : List Int} {D : DD} (hb : ∀ x ∈ B,0 ≤ x ∧ x ≤ 255) (hl : B.length ≤ 50000) (h : getA B = .ok D) : GoodD D := by
 have hk := getA_valid hb h
 exact ⟨hk.valid,⟨hk.id0,hk.id1⟩,fun x hx => hb x (hk.mem x hx),by have := hk.len;omega⟩

def RdD (W : World) (t n1 n2 n3 x : Value) (D : DD) : Prop := RdI .i64 W t D.T ∧ RdI .i64 W n1 D.L1 ∧ RdI .i64 W n2 D.L2 ∧ RdI .i64 W n3 D.L3 ∧ RdI .u8 W x D.X
theorem RdD.keeps {W W' : World} {t n1 n2 n3 x : Value} {D : DD} (r : RdD W t n1 n2 n3 x D) (k : Keeps W W' []) : RdD W' t n1 n2 n3 x D := ⟨r.1.keeps k,r.2.1.keeps k,r.2.2.1.keeps k,r.2.2.2.1.keeps k,r.2.2.2.2.keeps k⟩
abbrev dcOf (D : DD) (t n1 n2 n3 x : Value) : Array Value := dictC D.id t D.g1 n1 D.g2 n2 D.g3 n3 D.a D.b D.c x

theorem put_D (D : DD) (t n1 n2 n3 x : Value) (w : World) (r : RdD w t n1 n2 n3 x D) (h : GoodD D) : Calls Tryz.prog 28 #[.agg (dcOf D t n1 n2 n3 x)] w (PutOk w (putA D)) := by
 obtain ⟨b1,b2,b3⟩ := h.bounds
 have hl := h.len
 obtain ⟨r0,r1,r2,r3,rx⟩ := r
 unfold putA
 by_cases hid : D.id = 0
 ·rw [if_pos hid]
  exact put_raw D.id D.g1 D.g2 D.g3 D.a D.b D.c t n1 n2 n3 x D.T D.L1 D.L2 D.L3 D.X w r0 r1 r2 r3 rx (by omega) h.byte h.id h.valid b1 b2 b3 hid
 ·rw [if_neg hid]
  exact put_full D.id D.g1 D.g2 D.g3 D.a D.b D.c t n1 n2 n3 x D.T D.L1 D.L2 D.L3 D.X w r0 r1 r2 r3 rx (by omega) h.byte h.id h.valid b1 b2 b3 hid
theorem valid_D (D : DD) (t n1 n2 n3 x : Value) (w : World) (r : RdD w t n1 n2 n3 x D) (h : GoodD D) : Calls Tryz.prog 17 #[.agg (dcOf D t n1 n2 n3 x)] w fun e w' => e = .returned (.bool true) ∧ Keeps w w' [] := by
 obtain ⟨b1,b2,b3⟩ := h.bounds
 obtain ⟨l0,l1,l2,l3⟩ := h.lens
 have hl := h.len
 obtain ⟨r0,r1,r2,r3,rx⟩ := r
 exact valid_yes D.id D.g1 D.g2 D.g3 D.a D.b D.c t n1 n2 n3 x D.T D.L1 D.L2 D.L3 D.X w r0 r1 r2 r3 rx (by omega) (by omega) (by omega) (by omega) (by omega) h.byte b1 b2 b3 h.valid
theorem equal_D (D : DD) (t n1 n2 n3 x t' n1' n2' n3' x' : Value) (w : World) (r : RdD w t n1 n2 n3 x D) (r' : RdD w t' n1' n2' n3' x' D) (h : GoodD D) : Calls Tryz.prog 27 #[.agg (dcOf D t n1 n2 n3 x),.agg (dcOf D t' n1' n2' n3' x')] w fun e w' => e = .returned (.bool true) ∧ Keeps w w' [] := by
 obtain ⟨l0,l1,l2,l3⟩ := h.lens
 obtain ⟨r0,r1,r2,r3,rx⟩ := r
 obtain ⟨s0,s1,s2,s3,sx⟩ := r'
 have := dequal_any D.id D.id D.g1 D.g1 D.g2 D.g2 D.g3 D.g3 D.a D.a D.b D.b D.c D.c t t' n1 n1' n2 n2' n3 n3' x x' D.T D.T D.L1 D.L1 D.L2 D.L2 D.L3 D.L3 D.X D.X w r0 s0 r1 s1 r2 s2 r3 s3 rx sx (by omega) (by omega) (by omega) (by omega) (by omega) (by omega) (by omega) (by omega) h.byte h.byte
 simpa using this
theorem same_D (D : DD) (t n1 n2 n3 x t' n1' n2' n3' x' : Value) (w : World) (r : RdD w t n1 n2 n3 x D) (r' : RdD w t' n1' n2' n3' x' D) (h : GoodD D) : Calls Tryz.prog 15 #[.agg (dcOf D t n1 n2 n3 x),.agg (dcOf D t' n1' n2' n3' x')] w fun e w' => e = .returned (.bool true) ∧ Keeps w w' [] := by
 obtain ⟨l0,l1,l2,l3⟩ := h.lens
 obtain ⟨r0,r1,r2,r3,rx⟩ := r
 obtain ⟨s0,s1,s2,s3,sx⟩ := r'
 exact dsame_yes D.id D.g1 D.g2 D.g3 D.a D.b D.c t t' n1 n1' n2 n2' n3 n3' x x' D.T D.L1 D.L2 D.L3 D.X w r0 s0 r1 s1 r2 s2 r3 s3 rx sx (by omega) (by omega) (by omega) (by omega)
def GotOkD (w : World) (D : DD) (e : Ending) (w' : World) : Prop := ∃ t n1 n2 n3 x,e = .returned (.tuple #[.agg (dcOf D t n1 n2 n3 x),.int .i64 0]) ∧ RdD w' t n1 n2 n3 x D ∧ (Fresh w.heap.size t ∧ Fresh w.heap.size n1 ∧ Fresh w.heap.size n2 ∧ Fresh w.heap.size n3 ∧ Fresh w.heap.size x) ∧ Keeps w w' []
theorem get_D (D : DD) (v : Value) (l : List Int) (w : World) (hv : RdI .u8 w v l) (hl : ∀ x ∈ l,0 ≤ x ∧ x ≤ 255) (hn : l.length ≤ 100000) (h : getA l = .ok D) : Calls Tryz.prog 24 #[v] w (GotOkD w D) := by
 refine (get_all v l w hv hl hn).mono ?_
 intro e w' hh
 rw [h] at hh
 obtain ⟨kk,t,n1,n2,n3,x,rfl,rr,ff⟩ := hh
 exact ⟨t,n1,n2,n3,x,rfl,rr,ff,kk⟩
theorem get_E (E : Int) (v : Value) (l : List Int) (w : World) (hv : RdI .u8 w v l) (hl : ∀ x ∈ l,0 ≤ x ∧ x ≤ 255) (hn : l.length ≤ 100000) (h : getA l = .error E) : Calls Tryz.prog 24 #[v] w fun e w' => E ≠ 0 ∧ e = .returned (.tuple #[.agg zeroC,.int .i64 E]) ∧ Keeps w w' [] := by
 refine (get_all v l w hv hl hn).mono ?_
 intro e w' hh
 rw [h] at hh
 obtain ⟨kk,h0,rfl⟩ := hh
 exact ⟨h0,rfl,kk⟩
theorem RdD.forms {W : World} {t n1 n2 n3 x : Value} {D : DD} (r : RdD W t n1 n2 n3 x D) : ∃ pa pm pc p1a p1m p1c p2a p2m p2c p3a p3m p3c pxa pxm pxc,t = .slice pa pm pc ∧ n1 = .slice p1a p1m p1c ∧ n2 = .slice p2a p2m p2c ∧ n3 = .slice p3a p3m p3c ∧ x = .slice pxa pxm pxc := by
 obtain ⟨r0,r1,r2,r3,rx⟩ := r
 obtain ⟨pa,pm,pc,rfl,-⟩ := r0.form
 obtain ⟨p1a,p1m,p1c,rfl,-⟩ := r1.form
 obtain ⟨p2a,p2m,p2c,rfl,-⟩ := r2.form
 obtain ⟨p3a,p3m,p3c,rfl,-⟩ := r3.form
 obtain ⟨pxa,pxm,pxc,rfl,-⟩ := rx.form
 exact ⟨_,_,_,_,_,_,_,_,_,_,_,_,_,_,_,rfl,rfl,rfl,rfl,rfl⟩

theorem u32_boundsD {x : Int} (h : (Lit.int .u32 x).wf = true) : 0 ≤ x ∧ x < 4294967296 := by
 simp [Lit.wf,IntKind.min,IntKind.max,IntKind.signed,IntKind.bits] at h
 omega
def fewD (D : DD) : Bool := fewB D.T D.L1 D.L2 D.L3 D.X
theorem few_D (D : DD) (t n1 n2 n3 x : Value) (w : World) (r : RdD w t n1 n2 n3 x D) : Calls Tryz.prog 18 #[.agg (dcOf D t n1 n2 n3 x)] w fun e w' => e = .returned (.bool (fewD D)) ∧ Keeps w w' [] :=
 few_any D.id D.g1 D.g2 D.g3 D.a D.b D.c t n1 n2 n3 x D.T D.L1 D.L2 D.L3 D.X w r.1 r.2.1 r.2.2.1 r.2.2.2.1 r.2.2.2.2
theorem may_D (D : DD) (t n1 n2 n3 x : Value) (w : World) (r : RdD w t n1 n2 n3 x D) (hf : fewD D = true) (hX : ∀ y ∈ D.X,0 ≤ y ∧ y ≤ 255) : Calls Tryz.prog 21 #[.agg (dcOf D t n1 n2 n3 x)] w fun e w' => e = .returned (.bool (vD D)) ∧ Keeps w w' [] := by
 obtain ⟨l4,l0,l1,l2,l3⟩ := fewB_iff.1 hf
 exact rMay_any D.id D.g1 D.g2 D.g3 D.a D.b D.c t n1 n2 n3 x D.T D.L1 D.L2 D.L3 D.X w r.1 r.2.1 r.2.2.1 r.2.2.2.1 r.2.2.2.2 (by omega) (by omega) (by omega) (by omega) (by omega) hX
theorem goodD_arg {D : DD} (hid : 0 ≤ D.id ∧ D.id < 4294967296) (hX : ∀ y ∈ D.X,0 ≤ y ∧ y ≤ 255) (hf : fewD D = true) (hv : vD D = true) : GoodD D := by
 obtain ⟨l4,-⟩ := fewB_iff.1 hf
 exact ⟨hv,hid,hX,by omega⟩

theorem r01same_any (v u : Value) (a b : List Int) (w : World) (ha : RdI .u8 w v a) (hb : RdI .u8 w u b) (ha' : ∀ x ∈ a,0 ≤ x ∧ x ≤ 255) (hb' : ∀ x ∈ b,0 ≤ x ∧ x ≤ 255) :
  Calls Tryz.prog 30 #[v,u] w fun e w' => e = .returned (.bool (decide (a = b))) ∧ w' = w := by
 have s1 := str_of (P := Tryz.prog) ha Tryz.underlying22 Tryz.underlying5 Tryz.underlying9
 have s2 := str_of (P := Tryz.prog) hb Tryz.underlying22 Tryz.underlying5 Tryz.underlying9
 have hab := str_beq ha' hb'
 generalize decide (a = b) = R at *
 clear ha hb ha' hb'
 generalize strOfNums a = A at *
 generalize strOfNums b = B at *
 go_enter Tryz.func30,Tryz.ntmps30
 go_wp2_with fail
 go_ret
 exact ⟨rfl,rfl⟩
end

section
open Go.RowKit

set_option maxHeartbeats 8000000 in
theorem law_back (D : DD) (t n1 n2 n3 x : Value) (w : World) (rr : RdD w t n1 n2 n3 x D) (hid : 0 ≤ D.id ∧ D.id < 4294967296) (hX : ∀ y ∈ D.X,0 ≤ y ∧ y ≤ 255) : Calls Tryz.prog 9 #[.agg (dcOf D t n1 n2 n3 x)] w (LawEnd w) := by
 have HF := Lib.hid (fun W (k : Keeps w W []) => few_D D t n1 n2 n3 x W (rr.keeps k))
 obtain ⟨pa,pm,pc,p1a,p1m,p1c,p2a,p2m,p2c,p3a,p3m,p3c,pxa,pxm,pxc,rfl,rfl,rfl,rfl,rfl⟩ := rr.forms
 have b1 := Blk.new w (dcOf D (.slice pa pm pc) (.slice p1a p1m p1c) (.slice p2a p2m p2c) (.slice p3a p3m p3c) (.slice pxa pxm pxc)) 32
 have kw := (Keeps.refl w []).alloc (.cells (dcOf D (.slice pa pm pc) (.slice p1a p1m p1c) (.slice p2a p2m p2c) (.slice p3a p3m p3c) (.slice pxa pxm pxc)) 32)
 have RA := Lib.hid (fun W (k : Keeps w W []) => rr.keeps k)
 cases hf : fewD D with
 | false =>
  rw [hf] at HF
  clear rr hf
  go_enter Tryz.func9,Tryz.ntmps9
  go_wp2_with fail
  refine (HF.out _ kw).mono ?_
  rintro e w1 ⟨rfl,k1⟩
  go_wp2_with fail
  refine (known_true _).mono ?_
  rintro e w4 ⟨rfl,kk⟩
  go_wp2_with fail
  go_ret
  exact ⟨rfl,((kw.then k1).then kk).below⟩
 | true =>
  rw [hf] at HF
  have HM := Lib.hid (fun W (k : Keeps w W []) => may_D D _ _ _ _ _ W (rr.keeps k) hf hX)
  cases hV : vD D with
  | false =>
   rw [hV] at HM
   clear rr hf hV
   go_enter Tryz.func9,Tryz.ntmps9
   go_wp2_with fail
   refine (HF.out _ kw).mono ?_
   rintro e w1 ⟨rfl,k1⟩
   replace b1 := b1.keeps k1 (by simp)
   replace kw := kw.then k1
   obtain ⟨q0,q1,q2,q3,q4,q5,q6,q7,q8,q9,q10,q11⟩ := dict_cells b1
   go_wp2_with fail
   clear q0 q1 q2 q3 q4 q5 q6 q7 q8 q9 q10 q11
   refine (HM.out _ kw).mono ?_
   rintro e w2 ⟨rfl,k2⟩
   go_wp2_with fail
   refine (known_true _).mono ?_
   rintro e w4 ⟨rfl,kk⟩
   go_wp2_with fail
   go_ret
   exact ⟨rfl,((kw.then k2).then kk).below⟩
  | true =>
   rw [hV] at HM
   have hD := goodD_arg hid hX hf hV
   obtain ⟨e1,e2,e3⟩ := hD.enc
   have HGD := Lib.hid hD
   have HG := Lib.hid (fun W u (h : RdI .u8 W u (putA D)) => get_D D u _ W h e1 (by omega) e3)
   clear rr hf hV hid hX hD e1 e2 e3
   go_enter Tryz.func9,Tryz.ntmps9
   go_wp2_with fail
   refine (HF.out _ kw).mono ?_
   rintro e w1 ⟨rfl,k1⟩
   replace b1 := b1.keeps k1 (by simp)
   replace kw := kw.then k1
   clear k1 HF
   obtain ⟨q0,q1,q2,q3,q4,q5,q6,q7,q8,q9,q10,q11⟩ := dict_cells b1
   go_wp2_with fail
   clear q0 q1 q2 q3 q4 q5 q6 q7 q8 q9 q10 q11
   refine (HM.out _ kw).mono ?_
   rintro e w2 ⟨rfl,k2⟩
   replace b1 := b1.keeps k2 (by simp)
   replace kw := kw.then k2
   clear k2 HM
   obtain ⟨q0,q1,q2,q3,q4,q5,q6,q7,q8,q9,q10,q11⟩ := dict_cells b1
   go_wp2_with fail
   clear q0 q1 q2 q3 q4 q5 q6 q7 q8 q9 q10 q11
   refine (put_D D _ _ _ _ _ w2 (RA.out _ kw) HGD.out).mono ?_
   rintro e w3 ⟨v3,rfl,own3,k3⟩
   have R3 := Lib.hid (own_reads own3)
   obtain ⟨A3,M3,C3,rfl⟩ := own_formM own3
   replace b1 := b1.keeps k3 (by simp)
   replace kw := kw.then k3
   clear own3 k3
   go_wp2_with fail
   refine (HG.out _ _ R3.out).mono ?_
   rintro e w4 ⟨t,n1,n2,n3,x,rfl,rr,-,k4⟩
   obtain ⟨oa,om,oc,o1a,o1m,o1c,o2a,o2m,o2c,o3a,o3m,o3c,oxa,oxm,oxc,rfl,rfl,rfl,rfl,rfl⟩ := rr.forms
   have b3 := Blk.new w4 (dcOf D (.slice oa om oc) (.slice o1a o1m o1c) (.slice o2a o2m o2c) (.slice o3a o3m o3c) (.slice oxa oxm oxc)) 32
   have kb := (Keeps.refl w4 []).alloc (.cells (dcOf D (.slice oa om oc) (.slice o1a o1m o1c) (.slice o2a o2m o2c) (.slice o3a o3m o3c) (.slice oxa oxm oxc)) 32)
   have RB := Lib.hid (fun W (k : Keeps w4 W []) => rr.keeps k)
   have k5 := k4.then kb
   replace b1 := b1.keeps k5 (by simp)
   replace kw := kw.then k5
   clear rr k4 k5 R3
   obtain ⟨y0,y1,y2,y3,y4,y5,y6,y7,y8,y9,y10,y11⟩ := dict_cells b3
   go_wp2_with fail
   generalize w4.alloc (.cells (dcOf D (.slice oa om oc) (.slice o1a o1m o1c) (.slice o2a o2m o2c) (.slice o3a o3m o3c) (.slice oxa oxm oxc)) 32) = W4 at *
   clear y0 y1 y2 y3 y4 y5 y6 y7 y8 y9 y10 y11
   refine (put_D D _ _ _ _ _ W4 (RB.out _ kb) HGD.out).mono ?_
   rintro e w5 ⟨v5,rfl,own5,k5⟩
   have R5 := Lib.hid (own_reads own5)
   obtain ⟨A5,M5,C5,rfl⟩ := own_formM own5
   replace b1 := b1.keeps k5 (by simp)
   replace b3 := b3.keeps k5 (by simp)
   replace kw := kw.then k5
   replace kb := kb.then k5
   clear own5 k5
   go_wp2_with fail
   refine (HG.out _ _ R5.out).mono ?_
   rintro e w6 ⟨t,n1,n2,n3,x,rfl,rr,-,k6⟩
   obtain ⟨za,zm,zc,z1a,z1m,z1c,z2a,z2m,z2c,z3a,z3m,z3c,zxa,zxm,zxc,rfl,rfl,rfl,rfl,rfl⟩ := rr.forms
   have b5 := Blk.new w6 (dcOf D (.slice za zm zc) (.slice z1a z1m z1c) (.slice z2a z2m z2c) (.slice z3a z3m z3c) (.slice zxa zxm zxc)) 32
   have kc := (Keeps.refl w6 []).alloc (.cells (dcOf D (.slice za zm zc) (.slice z1a z1m z1c) (.slice z2a z2m z2c) (.slice z3a z3m z3c) (.slice zxa zxm zxc)) 32)
   have RC := Lib.hid (fun W (k : Keeps w6 W []) => rr.keeps k)
   have k7 := k6.then kc
   replace b1 := b1.keeps k7 (by simp)
   replace b3 := b3.keeps k7 (by simp)
   replace kw := kw.then k7
   replace kb := kb.then k7
   clear rr k6 k7 R5
   obtain ⟨q0,q1,q2,q3,q4,q5,q6,q7,q8,q9,q10,q11⟩ := dict_cells b1
   obtain ⟨y0,y1,y2,y3,y4,y5,y6,y7,y8,y9,y10,y11⟩ := dict_cells b3
   go_wp2_with fail
   generalize w6.alloc (.cells (dcOf D (.slice za zm zc) (.slice z1a z1m z1c) (.slice z2a z2m z2c) (.slice z3a z3m z3c) (.slice zxa zxm zxc)) 32) = W6 at *
   clear q0 q1 q2 q3 q4 q5 q6 q7 q8 q9 q10 q11 y0 y1 y2 y3 y4 y5 y6 y7 y8 y9 y10 y11
   refine (equal_D D _ _ _ _ _ _ _ _ _ _ W6 (RB.out _ kb) (RA.out _ kw) HGD.out).mono ?_
   rintro e w7 ⟨rfl,k8⟩
   replace b1 := b1.keeps k8 (by simp)
   replace b3 := b3.keeps k8 (by simp)
   replace b5 := b5.keeps k8 (by simp)
   replace kw := kw.then k8
   replace kb := kb.then k8
   replace kc := kc.then k8
   clear k8
   obtain ⟨q0,q1,q2,q3,q4,q5,q6,q7,q8,q9,q10,q11⟩ := dict_cells b1
   obtain ⟨y0,y1,y2,y3,y4,y5,y6,y7,y8,y9,y10,y11⟩ := dict_cells b3
   go_wp2_with fail
   clear q0 q1 q2 q3 q4 q5 q6 q7 q8 q9 q10 q11 y0 y1 y2 y3 y4 y5 y6 y7 y8 y9 y10 y11
   refine (same_D D _ _ _ _ _ _ _ _ _ _ w7 (RB.out _ kb) (RA.out _ kw) HGD.out).mono ?_
   rintro e w8 ⟨rfl,k8⟩
   replace b1 := b1.keeps k8 (by simp)
   replace b3 := b3.keeps k8 (by simp)
   replace b5 := b5.keeps k8 (by simp)
   replace kw := kw.then k8
   replace kb := kb.then k8
   replace kc := kc.then k8
   clear k8
   obtain ⟨q0,q1,q2,q3,q4,q5,q6,q7,q8,q9,q10,q11⟩ := dict_cells b1
   obtain ⟨z0,z1,z2,z3,z4,z5,z6,z7,z8,z9,z10,z11⟩ := dict_cells b5
   go_wp2_with fail
   clear q0 q1 q2 q3 q4 q5 q6 q7 q8 q9 q10 q11 z0 z1 z2 z3 z4 z5 z6 z7 z8 z9 z10 z11
   refine (same_D D _ _ _ _ _ _ _ _ _ _ w8 (RC.out _ kc) (RA.out _ kw) HGD.out).mono ?_
   rintro e w9 ⟨rfl,k8⟩
   replace b1 := b1.keeps k8 (by simp)
   replace b3 := b3.keeps k8 (by simp)
   replace b5 := b5.keeps k8 (by simp)
   replace kw := kw.then k8
   replace kb := kb.then k8
   replace kc := kc.then k8
   clear k8
   obtain ⟨y0,y1,y2,y3,y4,y5,y6,y7,y8,y9,y10,y11⟩ := dict_cells b3
   go_wp2_with fail
   clear y0 y1 y2 y3 y4 y5 y6 y7 y8 y9 y10 y11
   refine (valid_D D _ _ _ _ _ w9 (RB.out _ kb) HGD.out).mono ?_
   rintro e w10 ⟨rfl,k8⟩
   replace b1 := b1.keeps k8 (by simp)
   replace b3 := b3.keeps k8 (by simp)
   replace b5 := b5.keeps k8 (by simp)
   replace kw := kw.then k8
   replace kb := kb.then k8
   replace kc := kc.then k8
   clear k8
   go_wp2_with fail
   refine (known_true _).mono ?_
   rintro e w11 ⟨rfl,kk⟩
   go_wp2_with fail
   go_ret
   exact ⟨rfl,(kw.then kk).below⟩
end

section
open Go.ChangeShapes Go.WideShapes Go.ChangeAt Go.RowKit Go.Joins

section
variable {H : Type} {enc : TypeId × Value → H} {w : World}

theorem trod_numsC {P : Program} {ts e : TypeId} {k : IntKind} {fuel : Nat} {cs : List Value} {x : DataW H × List MemPlace} (hts : P.underlying ts = some (.slice e)) (he : P.underlying e = some (.int k)) (hE : P.cellsOf e = 1)
  (hf : DataW.trod enc P w 0 (fun _ => true) true fuel ts cs = some x) : ∃ v l,cs = [v] ∧ RdI k w v l ∧ (∀ x ∈ l,(Lit.int k x).wf = true) := by
 have h0 := hf
 rcases Go.Deep.open_slice1 hts hE hf with ⟨hcs,-⟩ | ⟨a,len,cap,m,n,V,D,Pl,hcs,-⟩
 ·subst hcs
  obtain ⟨l,h1,h2⟩ := open_numsC hts he hE h0
  exact ⟨_,l,rfl,h1,h2⟩
 ·subst hcs
  obtain ⟨l,h1,h2⟩ := open_numsC hts he hE h0
  exact ⟨_,l,rfl,h1,h2⟩

theorem c_int : Tryz.prog.cellsOf 3 = 1 := by kernel_rfl
theorem c_u32 : Tryz.prog.cellsOf 24 = 1 := by kernel_rfl
theorem c_ints : Tryz.prog.cellsOf 25 = 1 := by kernel_rfl
theorem c_bytes : Tryz.prog.cellsOf 22 = 1 := by kernel_rfl
theorem c_byte : Tryz.prog.cellsOf 5 = 1 := by kernel_rfl
theorem c_table : Tryz.prog.cellsOf 27 = 2 := by kernel_rfl
theorem c_arr : Tryz.prog.cellsOf 28 = 3 := by kernel_rfl
theorem c_ctx : Tryz.prog.cellsOf 30 = 10 := by kernel_rfl
theorem c_dict : Tryz.prog.cellsOf 32 = 12 := by kernel_rfl

theorem trod_tbl {fuel : Nat} {cs : List Value} {x : DataW H × List MemPlace} (h : DataW.trod enc Tryz.prog w 0 (fun _ => true) true fuel 27 cs = some x) :
  ∃ g v l,cs = [.int .i64 g,v] ∧ RdI .i64 w v l ∧ (∀ x ∈ l,(Lit.int .i64 x).wf = true) := by
 obtain ⟨xs,m,_,_,hl,hn,hx⟩ := DataW.trod_struct Tryz.underlying27 h
 have hlen : cs.length = 2 := by rw [hl];exact c_table
 match cs,hlen with
 | [c0,c1],_ =>
  match xs,hn with
  | [x0,x1],_ =>
   have h0 : DataW.trod enc Tryz.prog w 0 (fun _ => true) true m 3 (([c0,c1].drop 0).take (Tryz.prog.cellsOf 3)) = some x0 := hx 0 _ rfl
   have h1 : DataW.trod enc Tryz.prog w 0 (fun _ => true) true m 25 (([c0,c1].drop 1).take (Tryz.prog.cellsOf 25)) = some x1 := hx 1 _ rfl
   obtain ⟨g,eg,-,-⟩ := DataW.trod_int Tryz.underlying3 h0
   obtain ⟨v,l,ev,hv,hw⟩ := trod_numsC Tryz.underlying25 Tryz.underlying3 c_int h1
   rw [c_int] at eg
   rw [c_ints] at ev
   simp at eg ev
   exact ⟨g,v,l,by rw [eg,ev],hv,hw⟩

theorem trod_ctx {fuel : Nat} {cs : List Value} {x : DataW H × List MemPlace} (h : DataW.trod enc Tryz.prog w 0 (fun _ => true) true fuel 30 cs = some x) :
  ∃ t T g1 n1 L1 g2 n2 L2 g3 n3 L3 a b c,cs = [t,.int .i64 g1,n1,.int .i64 g2,n2,.int .i64 g3,n3,.int .i64 a,.int .i64 b,.int .i64 c] ∧ (RdI .i64 w t T ∧ RdI .i64 w n1 L1 ∧ RdI .i64 w n2 L2 ∧ RdI .i64 w n3 L3) ∧ (∀ x ∈ L1,(Lit.int .i64 x).wf = true) ∧ (∀ x ∈ L2,(Lit.int .i64 x).wf = true) ∧ (∀ x ∈ L3,(Lit.int .i64 x).wf = true) := by
 obtain ⟨xs,m,_,_,hl,hn,hx⟩ := DataW.trod_struct Tryz.underlying30 h
 have hlen : cs.length = 10 := by rw [hl];exact c_ctx
 match cs,hlen with
 | [c0,c1,c2,c3,c4,c5,c6,c7,c8,c9],_ =>
  match xs,hn with
  | [x0,x1,x2,x3,x4],_ =>
   have h0 : DataW.trod enc Tryz.prog w 0 (fun _ => true) true m 25 (([c0,c1,c2,c3,c4,c5,c6,c7,c8,c9].drop 0).take (Tryz.prog.cellsOf 25)) = some x0 := hx 0 _ rfl
   have h1 : DataW.trod enc Tryz.prog w 0 (fun _ => true) true m 27 (([c0,c1,c2,c3,c4,c5,c6,c7,c8,c9].drop 1).take (Tryz.prog.cellsOf 27)) = some x1 := hx 1 _ rfl
   have h2 : DataW.trod enc Tryz.prog w 0 (fun _ => true) true m 27 (([c0,c1,c2,c3,c4,c5,c6,c7,c8,c9].drop 3).take (Tryz.prog.cellsOf 27)) = some x2 := hx 2 _ rfl
   have h3 : DataW.trod enc Tryz.prog w 0 (fun _ => true) true m 27 (([c0,c1,c2,c3,c4,c5,c6,c7,c8,c9].drop 5).take (Tryz.prog.cellsOf 27)) = some x3 := hx 3 _ rfl
   have h4 : DataW.trod enc Tryz.prog w 0 (fun _ => true) true m 28 (([c0,c1,c2,c3,c4,c5,c6,c7,c8,c9].drop 7).take (Tryz.prog.cellsOf 28)) = some x4 := hx 4 _ rfl
   obtain ⟨t,T,et,ht,-⟩ := trod_numsC Tryz.underlying25 Tryz.underlying3 c_int h0
   obtain ⟨g1,n1,L1,e1,r1,w1⟩ := trod_tbl h1
   obtain ⟨g2,n2,L2,e2,r2,w2⟩ := trod_tbl h2
   obtain ⟨g3,n3,L3,e3,r3,w3⟩ := trod_tbl h3
   obtain ⟨a,b,c,e4,-⟩ := trod_arr3 Tryz.underlying28 Tryz.underlying3 c_arr c_int h4
   rw [c_ints] at et
   rw [c_table] at e1 e2 e3
   rw [c_arr] at e4
   simp at et e1 e2 e3 e4
   obtain ⟨rfl,rfl⟩ := e1
   obtain ⟨rfl,rfl⟩ := e2
   obtain ⟨rfl,rfl⟩ := e3
   obtain ⟨rfl,rfl,rfl⟩ := e4
   subst et
   exact ⟨_,T,_,_,L1,_,_,L2,_,_,L3,_,_,_,rfl,⟨ht,r1,r2,r3⟩,w1,w2,w3⟩

theorem open_dictW {r : Reach} {b0 : Nat} {v : Value} {d : DataW H} {p : List MemPlace} (hv : Value.okWide Tryz.prog w r b0 32 v) (h : DataW.Trod enc Tryz.prog w 0 (fun _ => true) true 32 v d p) :
  ∃ id t T g1 n1 L1 g2 n2 L2 g3 n3 L3 a b c x X,v = .agg (dictC id t g1 n1 g2 n2 g3 n3 a b c x) ∧ (RdI .i64 w t T ∧ RdI .i64 w n1 L1 ∧ RdI .i64 w n2 L2 ∧ RdI .i64 w n3 L3 ∧ RdI .u8 w x X) ∧ ((Lit.int .u32 id).wf = true ∧ (∀ y ∈ X,(Lit.int .u8 y).wf = true)) ∧ (∀ x ∈ L1,(Lit.int .i64 x).wf = true) ∧ (∀ x ∈ L2,(Lit.int .i64 x).wf = true) ∧ (∀ x ∈ L3,(Lit.int .i64 x).wf = true) := by
 obtain ⟨cs,rfl,hsz⟩ := okWide_struct Tryz.underlying32 hv
 obtain ⟨fuel,hf⟩ := h
 have hf' : DataW.trod enc Tryz.prog w 0 (fun _ => true) true fuel 32 cs.toList = some (d,p) := hf
 obtain ⟨xs,m,_,_,hl,hn,hx⟩ := DataW.trod_struct Tryz.underlying32 hf'
 have hlen : cs.toList.length = 12 := by rw [hl];exact c_dict
 rw [← Array.toArray_toList (xs := cs)]
 generalize cs.toList = ls at *
 match ls,hlen with
 | [c0,c1,c2,c3,c4,c5,c6,c7,c8,c9,ca,cb],_ =>
  match xs,hn with
  | [x0,x1,x2],_ =>
   have h0 : DataW.trod enc Tryz.prog w 0 (fun _ => true) true m 24 (([c0,c1,c2,c3,c4,c5,c6,c7,c8,c9,ca,cb].drop 0).take (Tryz.prog.cellsOf 24)) = some x0 := hx 0 _ rfl
   have h1 : DataW.trod enc Tryz.prog w 0 (fun _ => true) true m 30 (([c0,c1,c2,c3,c4,c5,c6,c7,c8,c9,ca,cb].drop 1).take (Tryz.prog.cellsOf 30)) = some x1 := hx 1 _ rfl
   have h2 : DataW.trod enc Tryz.prog w 0 (fun _ => true) true m 22 (([c0,c1,c2,c3,c4,c5,c6,c7,c8,c9,ca,cb].drop 11).take (Tryz.prog.cellsOf 22)) = some x2 := hx 2 _ rfl
   obtain ⟨id,e0,-,hid⟩ := DataW.trod_int Tryz.underlying24 h0
   obtain ⟨t,T,g1,n1,L1,g2,n2,L2,g3,n3,L3,a,b,c,e1,⟨ht,r1,r2,r3⟩,w1,w2,w3⟩ := trod_ctx h1
   obtain ⟨y,X,e2,hX,hXb⟩ := trod_numsC Tryz.underlying22 Tryz.underlying5 c_byte h2
   rw [c_u32] at e0
   rw [c_ctx] at e1
   rw [c_bytes] at e2
   simp at e0 e1 e2
   obtain ⟨rfl,rfl,rfl,rfl,rfl,rfl,rfl,rfl,rfl,rfl⟩ := e1
   subst e0 e2
   exact ⟨id,_,T,_,_,L1,_,_,L2,_,_,L3,_,_,_,_,X,rfl,⟨ht,r1,r2,r3,hX⟩,⟨hid,hXb⟩,w1,w2,w3⟩
end
end

section
open Go.ChangeShapes Go.WideShapes Go.ChangeAt Go.RowKit Go.Joins

theorem dictBack_lifted (os : Os) (started : os.Started) (H : Type) (enc : TypeId × Value → H) :
  ReturnsInHanded {} Tryz.checked os 9 .any (Rows.dictBackSpec.pre6 enc Tryz.prog Tryz.f9 Rows.dictBackRow.domain false) (Rows.dictBackSpec.post enc Tryz.prog Tryz.f9 false true false false) :=
 returnsInHanded_of_change (C := Tryz.checked) Tryz.own started (by kernel_rfl) Tryz.func9
  (ChangeSpec.witness6 (enc := enc) (C := Tryz.checked) false ⟨#[],#[.agg #[.int .u32 0,.slice none 0 0,.int .i64 0,.slice none 0 0,.int .i64 0,.slice none 0 0,.int .i64 0,.slice none 0 0,.int .i64 0,.int .i64 0,.int .i64 0,.slice none 0 0]],[]⟩ 8 (by kernel_rfl) (by kernel_rfl) (by kernel_rfl) (by kernel_rfl))
  (law_contract (C := Tryz.checked) Tryz.laidOut rfl
   (fun ds hd => by
    match ds,hd with
    | [d1],_ => rfl)
   (fun t ht => by
    have : t = 32 := by first | (simpa [Tryz.params9] using ht) | (have h9 := ht;simp [Tryz.params9] at h9;(repeat' (rcases h9 with h9 | h9)) <;> simp)
    rcases this with rfl <;> exact ⟨by kernel_rfl,of_decide_eq_true (by kernel_rfl)⟩)
   (tb := 4) rfl Tryz.underlying4
   (fun W base args ds ps hval0 hA0 hlt hnf => by
    have hval : ∀ (j : Nat) t v,Tryz.f9.params[j]? = some t → args[j]? = some v → Value.okWide Tryz.prog W .any base t v := hval0
    have hA : DataW.TrodAll enc Tryz.prog W 0 (fun _ => true) true Tryz.f9.params.toList args.toList ds ps := hA0
    rw [Tryz.params9] at hA hval
    obtain ⟨v0,d0,rfl,rfl,h0⟩ := trodAll_one hA
    obtain ⟨id,t,T,g1,n1,L1,g2,n2,L2,g3,n3,L3,a,b,c,x,X,rfl,⟨ht,h1',h2',h3',hx⟩,⟨hi,hw⟩,-⟩ := open_dictW (hval 0 32 v0 rfl rfl) h0
    exact law_back ⟨id,T,g1,L1,g2,L2,g3,L3,a,b,c,X⟩ t n1 n2 n3 x W ⟨ht,h1',h2',h3',hx⟩ (u32_boundsD hi) (fun x hx => u8_bounds (hw x hx))))

theorem dictBack_holds : Rows.DictBackSaid :=
 OpenClaim.holds_of_wide 9 Tryz.f9 rfl rfl rfl rfl rfl rfl rfl ⟨rfl,rfl,rfl,rfl,rfl⟩ rfl rfl rfl rfl rfl (by kernel_rfl) Tryz.func9 (by kernel_rfl)
  (of_decide_eq_true (by kernel_rfl)) (by unfold Func.isWrapper;first | (rw [if_pos (by decide +kernel)];kernel_rfl) | (rw [if_neg (by decide +kernel)];exact ⟨rfl,rfl⟩))
  (fun os started H enc _ => dictBack_lifted os started H enc)

#print axioms dictBack_holds
end

end Go.Proofs.YtcmagccfagijlaaGreat
