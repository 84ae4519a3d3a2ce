/-
  Walks over the references of contexts: Begin, SameContext. (Printed by mkEi.py.)
  Walks over the laws of package dict: few.
-/
import Derived.Test.YtcmagccfagijlaaGreatQ27
import Derived.Test.YtcmagccfagijlaaGreatQ30
import Derived.Test.YtcmagccfagijlaaGreatQ24
namespace Go.Proofs.YtcmagccfagijlaaGreat
section
set_option linter.unusedVariables false
set_option linter.unusedSimpArgs false
set_option linter.unusedSectionVars false
open Go.RowKit

set_option maxRecDepth 100000 in
set_option maxHeartbeats 8000000 in
theorem rbegin_any (p : Nat) (id g1 g2 g3 a b c : Int) (t n1 n2 n3 x : Value) (T L1 L2 L3 X : List Int) (w : World) (bp : Blk w p (dictC id t g1 n1 g2 n2 g3 n3 a b c x) 32) (ht : RdI .i64 w t T) (h1 : RdI .i64 w n1 L1) (h2 : RdI .i64 w n2 L2) (h3 : RdI .i64 w n3 L3) (hx : RdI .u8 w x X) (hT : T.length ≤ 1000000) (hL1 : L1.length ≤ 1000000) (hL2 : L2.length ≤ 1000000) (hL3 : L3.length ≤ 1000000) (hX : X.length ≤ 1000000) (hxb : ∀ y ∈ X, 0 ≤ y ∧ y ≤ 255) :
    Calls Tryz.prog 23 #[.pointer (some ⟨p, 0, none⟩)] w (CtxEnd w (validB id T L1 L2 L3 g1 g2 g3 a b c X) T L1 L2 L3 g1 g2 g3 a b c) := by
  have HVA := Lib.hid (fun w1 (k : Keeps w w1 []) => rMay_any id g1 g2 g3 a b c t n1 n2 n3 x T L1 L2 L3 X w1 (ht.keeps k) (h1.keeps k) (h2.keeps k) (h3.keeps k) (hx.keeps k) hT hL1 hL2 hL3 hX hxb)
  have HR := Lib.hid (fun w1 (k : Keeps w w1 []) => (show _ ∧ _ ∧ _ ∧ _ from ⟨ht.keeps k, h1.keeps k, h2.keeps k, h3.keeps k⟩))
  obtain ⟨pa, pm, pc, rfl, htn, -⟩ := ht.form
  obtain ⟨p1a, p1m, p1c, rfl, h1n, -⟩ := h1.form
  obtain ⟨p2a, p2m, p2c, rfl, h2n, -⟩ := h2.form
  obtain ⟨p3a, p3m, p3c, rfl, h3n, -⟩ := h3.form
  obtain ⟨pxa, pxm, pxc, rfl, hxn, -⟩ := hx.form
  clear ht h1 h2 h3 hx htn h1n h2n h3n hxn hT hL1 hL2 hL3 hX hxb
  generalize validB id T L1 L2 L3 g1 g2 g3 a b c X = V at *
  have hpw := bp.lt
  have bz := Blk.new w #[nilV, .int .i64 0, nilV, .int .i64 0, nilV, .int .i64 0, nilV, .int .i64 0, .int .i64 0, .int .i64 0] 30
  have bp1 := bp.alloc (.cells #[nilV, .int .i64 0, nilV, .int .i64 0, nilV, .int .i64 0, nilV, .int .i64 0, .int .i64 0, .int .i64 0] 30)
  have k1 := (Keeps.refl w []).alloc (.cells #[nilV, .int .i64 0, nilV, .int .i64 0, nilV, .int .i64 0, nilV, .int .i64 0, .int .i64 0, .int .i64 0] 30)
  obtain ⟨q0, q1, q2, q3, q4, q5, q6, q7, q8, q9, qa, qb⟩ := dict_cells bp1
  go_enter Tryz.func23, Tryz.ntmps23
  go_wp2_with fail
  clear q0 q1 q2 q3 q4 q5 q6 q7 q8 q9 qa qb
  generalize (w.alloc (.cells #[nilV, .int .i64 0, nilV, .int .i64 0, nilV, .int .i64 0, nilV, .int .i64 0, .int .i64 0, .int .i64 0] 30)) = W0 at *
  refine (HVA.out _ k1).mono ?_
  rintro e w1 ⟨rfl, kk⟩
  replace bz := bz.keeps kk (by simp)
  replace bp1 := bp1.keeps kk (by simp)
  replace k1 := k1.then kk
  clear kk
  cases V
  · clear bp bp1
    go_wp2_with (refine wpList_store_blk rfl 30 _ _ rfl w.heap.size #[nilV, .int .i64 0, nilV, .int .i64 0, nilV, .int .i64 0, nilV, .int .i64 1, .int .i64 4, .int .i64 8] rfl rfl _ _ bz ctx_size rfl (by simp [Value.oneCell']) ?_; intro W2 hb2 k2)
    refine bodyPost_ret (v := .agg #[nilV, .int .i64 0, nilV, .int .i64 0, nilV, .int .i64 0, nilV, .int .i64 1, .int .i64 4, .int .i64 8]) (res_cell rfl rfl (load_ctx hb2 rfl)) rfl ⟨_, _, _, _, _, _, _, _, _, _, [], [], [], [], rfl, ⟨.nil, .nil, .nil, .nil⟩, rfl, k1.trans k2 (fun j hj hlt => by simp at hj; omega)⟩
  obtain ⟨q0, q1, q2, q3, q4, q5, q6, q7, q8, q9, qa, qb⟩ := dict_cells bp1
  have HR1 := Lib.hid (HR.out _ k1)
  go_wp2_with (refine wpList_store_blk rfl 30 _ _ rfl w.heap.size #[.slice pa pm pc, .int .i64 g1, .slice p1a p1m p1c, .int .i64 g2, .slice p2a p2m p2c, .int .i64 g3, .slice p3a p3m p3c, .int .i64 a, .int .i64 b, .int .i64 c] rfl rfl _ _ bz ctx_size rfl (by simp [Value.oneCell']) ?_; intro W2 hb2 k2)
  have kk := k1.trans k2 (fun j hj hlt => by simp at hj; omega)
  obtain ⟨r0, r1, r2, r3⟩ := HR.out _ kk
  refine bodyPost_ret (v := .agg #[.slice pa pm pc, .int .i64 g1, .slice p1a p1m p1c, .int .i64 g2, .slice p2a p2m p2c, .int .i64 g3, .slice p3a p3m p3c, .int .i64 a, .int .i64 b, .int .i64 c]) (res_cell rfl rfl (load_ctx hb2 rfl)) rfl ⟨_, _, _, _, _, _, _, _, _, _, T, L1, L2, L3, rfl, ⟨r0, r1, r2, r3⟩, rfl, kk⟩

set_option maxRecDepth 100000 in
set_option maxHeartbeats 8000000 in
theorem rsamec_yes (g1 g2 g3 a b c : Int) (t t' n1 n1' n2 n2' n3 n3' : Value) (T L1 L2 L3 : List Int) (w : World) (ht : RdI .i64 w t T) (ht' : RdI .i64 w t' T) (h1 : RdI .i64 w n1 L1) (h1' : RdI .i64 w n1' L1) (h2 : RdI .i64 w n2 L2) (h2' : RdI .i64 w n2' L2) (h3 : RdI .i64 w n3 L3) (h3' : RdI .i64 w n3' L3)
    (hT : T.length ≤ 1000000) (hL1 : L1.length ≤ 1000000) (hL2 : L2.length ≤ 1000000) (hL3 : L3.length ≤ 1000000) :
    Calls Tryz.prog 22 #[.agg #[t, .int .i64 g1, n1, .int .i64 g2, n2, .int .i64 g3, n3, .int .i64 a, .int .i64 b, .int .i64 c], .agg #[t', .int .i64 g1, n1', .int .i64 g2, n2', .int .i64 g3, n3', .int .i64 a, .int .i64 b, .int .i64 c]] w fun e w' => e = .returned (.bool true) ∧ Keeps w w' [] := by
  have HV := Lib.hid (fun w1 (k : Keeps w w1 []) => (show _ ∧ _ from ⟨ht.keeps k, ht'.keeps k⟩))
  have HT1 : Hid (∀ w1, Keeps w w1 [] → Calls Tryz.prog 35 #[.agg #[.int .i64 g1, n1], .agg #[.int .i64 g1, n1']] w1 fun e w' => e = .returned (.bool true) ∧ Keeps w1 w' []) := fun w1 k => by
    simpa using tsame_any g1 g1 n1 n1' L1 L1 w1 (h1.keeps k) (h1'.keeps k) hL1 hL1
  have HT2 : Hid (∀ w1, Keeps w w1 [] → Calls Tryz.prog 35 #[.agg #[.int .i64 g2, n2], .agg #[.int .i64 g2, n2']] w1 fun e w' => e = .returned (.bool true) ∧ Keeps w1 w' []) := fun w1 k => by
    simpa using tsame_any g2 g2 n2 n2' L2 L2 w1 (h2.keeps k) (h2'.keeps k) hL2 hL2
  have HT3 : Hid (∀ w1, Keeps w w1 [] → Calls Tryz.prog 35 #[.agg #[.int .i64 g3, n3], .agg #[.int .i64 g3, n3']] w1 fun e w' => e = .returned (.bool true) ∧ Keeps w1 w' []) := fun w1 k => by
    simpa using tsame_any g3 g3 n3 n3' L3 L3 w1 (h3.keeps k) (h3'.keeps k) hL3 hL3
  have h3q := fun w1 => eq_three a b c a b c w1
  simp only [BEq.rfl, Bool.and_true] at h3q
  obtain ⟨pa, pm, pc, rfl, htn, -⟩ := ht.form
  obtain ⟨qa, qm, qc, rfl, htn', -⟩ := ht'.form
  obtain ⟨p1a, p1m, p1c, rfl, h1n, -⟩ := h1.form
  obtain ⟨q1a, q1m, q1c, rfl, h1n', -⟩ := h1'.form
  obtain ⟨p2a, p2m, p2c, rfl, h2n, -⟩ := h2.form
  obtain ⟨q2a, q2m, q2c, rfl, h2n', -⟩ := h2'.form
  obtain ⟨p3a, p3m, p3c, rfl, h3n, -⟩ := h3.form
  obtain ⟨q3a, q3m, q3c, rfl, h3n', -⟩ := h3'.form
  obtain rfl : qm = pm := by omega
  obtain rfl : q1m = p1m := by omega
  obtain rfl : q2m = p2m := by omega
  obtain rfl : q3m = p3m := by omega
  have HN := Lib.hid htn
  have hnn : ((qm : Int) != (qm : Int)) = false := by simp
  have hn' : qm ≤ 1000000 := by omega
  clear ht ht' h1 h1' h2 h2' h3 h3' htn htn' h1n h1n' h2n h2n' h3n h3n' hT hL1 hL2 hL3
  have zc := (Blk.new w #[.slice pa qm pc, .int .i64 g1, .slice p1a q1m p1c, .int .i64 g2, .slice p2a q2m p2c, .int .i64 g3, .slice p3a q3m p3c, .int .i64 a, .int .i64 b, .int .i64 c] 30).alloc (.cells #[.slice qa qm qc, .int .i64 g1, .slice q1a q1m q1c, .int .i64 g2, .slice q2a q2m q2c, .int .i64 g3, .slice q3a q3m q3c, .int .i64 a, .int .i64 b, .int .i64 c] 30)
  have zd := Blk.new (w.alloc (.cells #[.slice pa qm pc, .int .i64 g1, .slice p1a q1m p1c, .int .i64 g2, .slice p2a q2m p2c, .int .i64 g3, .slice p3a q3m p3c, .int .i64 a, .int .i64 b, .int .i64 c] 30)) #[.slice qa qm qc, .int .i64 g1, .slice q1a q1m q1c, .int .i64 g2, .slice q2a q2m q2c, .int .i64 g3, .slice q3a q3m q3c, .int .i64 a, .int .i64 b, .int .i64 c] 30
  have zk : Keeps w ((w.alloc (.cells #[.slice pa qm pc, .int .i64 g1, .slice p1a q1m p1c, .int .i64 g2, .slice p2a q2m p2c, .int .i64 g3, .slice p3a q3m p3c, .int .i64 a, .int .i64 b, .int .i64 c] 30)).alloc (.cells #[.slice qa qm qc, .int .i64 g1, .slice q1a q1m q1c, .int .i64 g2, .slice q2a q2m q2c, .int .i64 g3, .slice q3a q3m q3c, .int .i64 a, .int .i64 b, .int .i64 c] 30)) [] := ((Keeps.refl w []).alloc _).alloc _
  simp only [World.size_alloc] at zd
  go_enter Tryz.func22, Tryz.ntmps22
  go_wp2_with fail
  generalize ((w.alloc (.cells #[.slice pa qm pc, .int .i64 g1, .slice p1a q1m p1c, .int .i64 g2, .slice p2a q2m p2c, .int .i64 g3, .slice p3a q3m p3c, .int .i64 a, .int .i64 b, .int .i64 c] 30)).alloc (.cells #[.slice qa qm qc, .int .i64 g1, .slice q1a q1m q1c, .int .i64 g2, .slice q2a q2m q2c, .int .i64 g3, .slice q3a q3m q3c, .int .i64 a, .int .i64 b, .int .i64 c] 30)) = w0 at *
  have c0 := ctx_cell0 zc
  have d0 := ctx_cell0 zd
  obtain ⟨H1, H2⟩ := HV.out _ zk
  replace H1 := Lib.hid H1
  replace H2 := Lib.hid H2
  go_loopw [5] (fun i wr => ∃ k nd : Nat, k ≤ qm ∧ i = .int .i64 k ∧ wr = w0.drewN nd) (fun i _ => qm - (intOf i).toNat)
  case atStart => exact ⟨0, 0, Nat.zero_le _, rfl, rfl⟩
  case round =>
    obtain ⟨k, nd, hk, rfl, rfl⟩ := hrel
    by_cases hlt : k < qm
    · obtain ⟨y, hy⟩ : ∃ y, T[k]? = some y := ⟨_, List.getElem?_eq_getElem (by have := HN.out; omega)⟩
      obtain ⟨bb, o, rfl, hb, hc⟩ := H1.out.at hy
      obtain ⟨b2, o2, rfl, hb2, hc2⟩ := H2.out.at hy
      have hcap := H1.out.cap
      have hcap2 := H2.out.cap
      have hkn : (k : Int) < (qm : Int) := by omega
      have hk0 : (0 : Int) ≤ (k : Int) := Int.natCast_nonneg _
      have gy : (y != y) = false := by simp
      clear hy
      go_wp2_with fail
      go_quiet (fail)
      go_wp2_with fail
      go_roundw
      case rel => exact ⟨k + 1, nd + nq, by omega, by go_num, (by first | rfl | trivial | rw [World.drewN_drewN])⟩
      case measure => simp [intOf]; omega
    · have : k = qm := by omega
      subst this
      replace zc := zc.drewN nd
      replace zd := zd.drewN nd
      replace zk := zk.drewN nd
      obtain ⟨a1, a2, a3, a4, a5, a6, a7, a8, a9⟩ := ctx_cells zc
      obtain ⟨b1, b2, b3, b4, b5, b6, b7, b8, b9⟩ := ctx_cells zd
      generalize hwr : w0.drewN nd = wr at *
      have c0' := ctx_cell0 zc
      have d0' := ctx_cell0 zd
      go_wp2_with fail
      refine (HT1.out _ zk).mono ?_
      rintro e w1 ⟨rfl, kk⟩
      replace zc := zc.keeps kk (by simp)
      replace zd := zd.keeps kk (by simp)
      replace zk := zk.then kk
      clear kk a1 a2 a3 a4 a5 a6 a7 a8 a9 b1 b2 b3 b4 b5 b6 b7 b8 b9
      obtain ⟨a1, a2, a3, a4, a5, a6, a7, a8, a9⟩ := ctx_cells zc
      obtain ⟨b1, b2, b3, b4, b5, b6, b7, b8, b9⟩ := ctx_cells zd
      go_wp2_with fail
      refine (HT2.out _ zk).mono ?_
      rintro e w2 ⟨rfl, kk⟩
      replace zc := zc.keeps kk (by simp)
      replace zd := zd.keeps kk (by simp)
      replace zk := zk.then kk
      clear kk a1 a2 a3 a4 a5 a6 a7 a8 a9 b1 b2 b3 b4 b5 b6 b7 b8 b9
      obtain ⟨a1, a2, a3, a4, a5, a6, a7, a8, a9⟩ := ctx_cells zc
      obtain ⟨b1, b2, b3, b4, b5, b6, b7, b8, b9⟩ := ctx_cells zd
      go_wp2_with fail
      refine (HT3.out _ zk).mono ?_
      rintro e w3 ⟨rfl, kk⟩
      replace zc := zc.keeps kk (by simp)
      replace zd := zd.keeps kk (by simp)
      replace zk := zk.then kk
      clear kk a1 a2 a3 a4 a5 a6 a7 a8 a9 b1 b2 b3 b4 b5 b6 b7 b8 b9
      obtain ⟨a1, a2, a3, a4, a5, a6, a7, a8, a9⟩ := ctx_cells zc
      obtain ⟨b1, b2, b3, b4, b5, b6, b7, b8, b9⟩ := ctx_cells zd
      go_wp2_with fail
      go_ret
      exact ⟨rfl, zk⟩
end

section
set_option linter.unusedVariables false
set_option linter.unusedSimpArgs false
set_option linter.unusedSectionVars false
open Go.RowKit

/-- A dictionary is small. -/
def fewB (T L1 L2 L3 X : List Int) : Bool := decide (X.length ≤ 3000 ∧ T.length ≤ 300 ∧ L1.length ≤ 600 ∧ L2.length ≤ 600 ∧ L3.length ≤ 600)
theorem fewB_iff {T L1 L2 L3 X : List Int} : fewB T L1 L2 L3 X = true ↔ X.length ≤ 3000 ∧ T.length ≤ 300 ∧ L1.length ≤ 600 ∧ L2.length ≤ 600 ∧ L3.length ≤ 600 := by simp [fewB]

set_option maxRecDepth 100000 in
set_option maxHeartbeats 4000000 in
theorem few_any (id g1 g2 g3 a b c : Int) (t n1 n2 n3 x : Value) (T L1 L2 L3 X : List Int) (w : World) (ht : RdI .i64 w t T) (h1 : RdI .i64 w n1 L1) (h2 : RdI .i64 w n2 L2) (h3 : RdI .i64 w n3 L3) (hx : RdI .u8 w x X) :
    Calls Tryz.prog 18 #[.agg (dictC id t g1 n1 g2 n2 g3 n3 a b c x)] w fun e w' => e = .returned (.bool (fewB T L1 L2 L3 X)) ∧ Keeps w w' [] := by
  obtain ⟨pa, pm, pc, rfl, l0, -⟩ := ht.form
  obtain ⟨p1a, p1m, p1c, rfl, l1, -⟩ := h1.form
  obtain ⟨p2a, p2m, p2c, rfl, l2, -⟩ := h2.form
  obtain ⟨p3a, p3m, p3c, rfl, l3, -⟩ := h3.form
  obtain ⟨pxa, pxm, pxc, rfl, l4, -⟩ := hx.form
  have hF : fewB T L1 L2 L3 X = (decide ((pxm : Int) ≤ 3000) && (decide ((pm : Int) ≤ 300) && (decide ((p1m : Int) ≤ 600) && (decide ((p2m : Int) ≤ 600) && decide ((p3m : Int) ≤ 600))))) := by
    have c0 : decide (X.length ≤ 3000) = decide ((pxm : Int) ≤ 3000) := decide_eq_decide.2 (by omega)
    have c1 : decide (T.length ≤ 300) = decide ((pm : Int) ≤ 300) := decide_eq_decide.2 (by omega)
    have c2 : decide (L1.length ≤ 600) = decide ((p1m : Int) ≤ 600) := decide_eq_decide.2 (by omega)
    have c3 : decide (L2.length ≤ 600) = decide ((p2m : Int) ≤ 600) := decide_eq_decide.2 (by omega)
    have c4 : decide (L3.length ≤ 600) = decide ((p3m : Int) ≤ 600) := decide_eq_decide.2 (by omega)
    simp only [fewB, Bool.decide_and, c0, c1, c2, c3, c4]
  rw [hF]
  clear hF ht h1 h2 h3 hx l0 l1 l2 l3 l4
  obtain ⟨R0, e0⟩ : ∃ R, decide ((pxm : Int) ≤ 3000) = R := ⟨_, rfl⟩
  obtain ⟨R1, e1⟩ : ∃ R, decide ((pm : Int) ≤ 300) = R := ⟨_, rfl⟩
  obtain ⟨R2, e2⟩ : ∃ R, decide ((p1m : Int) ≤ 600) = R := ⟨_, rfl⟩
  obtain ⟨R3, e3⟩ : ∃ R, decide ((p2m : Int) ≤ 600) = R := ⟨_, rfl⟩
  obtain ⟨R4, e4⟩ : ∃ R, decide ((p3m : Int) ≤ 600) = R := ⟨_, rfl⟩
  rw [e0, e1, e2, e3, e4]
  go_enter Tryz.func18, Tryz.ntmps18
  go_wp2_with fail
  all_goals
    clear e0 e1 e2 e3 e4
    go_ret
    refine ⟨?_, ((Keeps.refl w []).alloc _).alloc _⟩
    simp_all
end

end Go.Proofs.YtcmagccfagijlaaGreat
