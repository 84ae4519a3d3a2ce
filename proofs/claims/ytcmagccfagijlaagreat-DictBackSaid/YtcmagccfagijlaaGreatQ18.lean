/-
  Walks over package dict: the last steps of full. (Printed by mkGb.py.)
-/
import Derived.Test.YtcmagccfagijlaaGreatQ17
namespace Go.Proofs.YtcmagccfagijlaaGreat
set_option linter.unusedVariables false
set_option linter.unusedSimpArgs false
set_option linter.unusedSectionVars false
set_option maxRecDepth 100000
open Go.RowKit

def repR (B : List Int) (k : Nat) : Except Int (Nat × Nat) := if varE B k ≠ 0 then .error (varE B k) else if varX B k < 1 ∨ 134217728 < varX B k then .error 9 else .ok (varX B k,varK B k)
def contR (B : List Int) : Nat → Nat → List Nat → Except Int (List Nat × Nat)
 | 0,k,acc => .ok (acc,k)
 | f + 1,k,acc => match repR B k with
  | .error e => .error e
  | .ok (x,k') => contR B f k' (acc ++ [x])
def repD (d : DV) (acc : List Nat) : DV := { d with a := (acc.map (fun (x : Nat) => (x : Int))).getD 0 d.a,b := (acc.map (fun (x : Nat) => (x : Int))).getD 1 d.b,c := (acc.map (fun (x : Nat) => (x : Int))).getD 2 d.c }
def F5End (w : World) (p : Nat) (v : Value) (B : List Int) (bc bd bx N : Nat) (d : DV) (R : Except Int (List Nat × Nat)) (e : Ending) (w' : World) : Prop :=
 Keeps w w' [p,bd] ∧ match R with
  | .ok (acc,K) => e = .returned (.tuple #[]) ∧ acc.length = 3 ∧ DSt w' p v B K bc bd bx N (repD d acc)
  | .error n => n ≠ 0 ∧ e = .panicked [raisedBy n false]

set_option maxHeartbeats 4000000 in
theorem f5_any (p k bc bd bx N : Nat) (v : Value) (B : List Int) (d : DV) (w : World) (h : DSt w p v B k bc bd bx N d) :
  Calls Tryz.prog 89 #[.pointer (some ⟨bc,0,none⟩),.pointer (some ⟨bx,0,none⟩)] w (F5End w p v B bc bd bx N d (contR B 3 k [])) := by
 obtain ⟨R,hR⟩ : ∃ R,contR B 3 k [] = R := ⟨_,rfl⟩
 rw [hR]
 have HR := Lib.hid hR
 have HH := Lib.hid h
 have hdp := h.ne.1
 clear h hR
 go_enter Tryz.func89,Tryz.ntmps89
 go_wp2_with fail
 go_loopw [4] (fun s4 wr => ∃ (j k' : Nat) (acc : List Nat),j ≤ 3 ∧ Hid (acc.length = j) ∧ s4 = .int .i64 (j : Int) ∧ Hid (contR B (3 - j) k' acc = R) ∧ Hid (DSt wr p v B k' bc bd bx N (repD d acc)) ∧ Keeps w wr [p,bd]) (fun s4 _ => 3 - (intOf s4).toNat)
 case atStart => exact ⟨0,k,[],by omega,rfl,rfl,HR.out,HH.out,Keeps.refl _ _⟩
 case round =>
  obtain ⟨j,k',acc,hj,hacc,rfl,hcr,hst,kk⟩ := hrel
  clear HR HH
  by_cases hlt : j < 3
  ·have HV := Lib.hid (varint_any p k' v B wr hst.out.cur)
   obtain ⟨d0,-⟩ := hst.out.kc.one
   have hE : Hid (contR B (3 - j) k' acc = match repR B k' with | .error e => .error e | .ok (x,k2) => contR B (3 - (j + 1)) k2 (acc ++ [x])) := Lib.hid (by
    rw [show 3 - j = (3 - (j + 1)) + 1 by omega,contR])
   have hjI : (j : Int) < 3 := by omega
   by_cases hv : varE B k' = 0
   ·rw [hv] at HV
    obtain ⟨x,hx⟩ : ∃ x,varX B k' = x := ⟨_,rfl⟩
    rw [hx] at HV
    obtain ⟨K2,hK2⟩ : ∃ x,varK B k' = x := ⟨_,rfl⟩
    rw [hK2] at HV
    by_cases hb : x < 1 ∨ 134217728 < x
    ·have hRe : Hid (R = .error 9) := Lib.hid (by rw [← hcr.out,hE.out];unfold repR;rw [if_neg (by simpa using hv),if_pos (by rw [hx];exact hb)])
     have hbt : (decide ((0 : Int) < (x : Int)) && decide ((x : Int) ≤ 134217728)) = false := by
      rcases hb with h | h
      ·simp;omega
      ·simp;omega
     clear hv hx hK2 hE hcr
     rcases hb with hb | hb
     ·obtain rfl : x = 0 := by omega
      go_wp2_with (first
       | (go_at_call 91;(refine HV.out.mono ?_;rintro e w1 ⟨rfl,cur1,k1⟩;have K1 := Lib.hid k1;clear k1 cur1))
       | (go_at_call 90;(refine (gotv_yes _ _).mono ?_;rintro e w2 ⟨rfl,rfl⟩))
       | (go_at_call 62;(refine (dmust_no (by simp) 9 _).mono ?_;rintro e w3 ⟨rfl,rfl⟩)))
      rw [hRe.out]
      exact ⟨rfl,kk.trans K1.out (fun j hj _ => by simp at hj;simp [hj]),by decide,rfl⟩
     ·have h1 : (0 : Int) < (x : Int) := by omega
      have h1n : 0 < x := by omega
      have h2 : decide ((x : Int) ≤ 134217728) = false := decide_eq_false (by omega)
      have h2n : decide (x ≤ 134217728) = false := decide_eq_false (by omega)
      go_wp2_with (first
       | (go_at_call 91;(refine HV.out.mono ?_;rintro e w1 ⟨rfl,cur1,k1⟩;have K1 := Lib.hid k1;clear k1 cur1))
       | (go_at_call 90;(refine (gotv_yes _ _).mono ?_;rintro e w2 ⟨rfl,rfl⟩))
       | (go_at_call 62;(refine (dmust_no (by simp [h2,h2n]) 9 _).mono ?_;rintro e w3 ⟨rfl,rfl⟩)))
      rw [hRe.out]
      exact ⟨rfl,kk.trans K1.out (fun j hj _ => by simp at hj;simp [hj]),by decide,rfl⟩
    ·have hE2 : Hid (contR B (3 - (j + 1)) K2 (acc ++ [x]) = R) := Lib.hid (by
      have h1 := hE.out
      have h2 : repR B k' = .ok (x,K2) := by unfold repR;rw [if_neg (by simpa using hv),hx,hK2,if_neg hb]
      rw [h2] at h1
      exact h1.symm.trans hcr.out)
     clear hv hx hK2 hE hcr
     have hj3 : j = 0 ∨ j = 1 ∨ j = 2 := by omega
     rcases hj3 with rfl | rfl | rfl
     ·obtain rfl : acc = [] := List.eq_nil_of_length_eq_zero hacc.out
      clear hacc hlt hj
      ·have h1 : (0 : Int) < (x : Int) := by omega
       have h1n : 0 < x := by omega
       have h2 : (x : Int) ≤ 134217728 := by omega
       have h2n : x ≤ 134217728 := by omega
       have hcv : IntKind.i64.wrap (x : Int) = (x : Int) := IntWalk.i64_in _ ⟨by omega,by omega⟩
       have hcw : wrap64 (x : Int) = (x : Int) := IntWalk.wrap64_in _ ⟨by omega,by omega⟩
       clear hb hjI
       go_wp2_with (first
        | (go_at_call 91;(refine HV.out.mono ?_;rintro e w1 ⟨rfl,cur1,k1⟩;have K1 := Lib.hid k1;have hs1 := Lib.hid (hst.out.read k1 cur1);have c8 : w1.cell? ⟨bd,8,none⟩ = _ := hs1.out.kd.cell 8;simp at c8;have f8 := hs1.out.kd.frozen 8;obtain ⟨d1,-⟩ := hs1.out.kx.one;clear k1 cur1))
        | (go_at_call 90;(refine (gotv_yes _ _).mono ?_;rintro e w2 ⟨rfl,rfl⟩))
        | (go_at_call 62;(refine (dmust_yes (by simp) 9 _).mono ?_;rintro e w3 ⟨rfl,rfl⟩)))
       have kb : Keeps w2 (w2.setCell ⟨bd,8,none⟩ (.int .i64 (x : Int))) [bd] := (Keeps.refl _ [bd]).setCell (.inr (by simp)) _
       have hb' := hs1.out.kd.set 8 (.int .i64 (x : Int))
       have hp := Lib.hid (hs1.out.put (d' := repD d ([] ++ [x])) kb (by simpa [repD] using hb') ⟨hs1.out.rt,hs1.out.ft⟩ ⟨hs1.out.r1,hs1.out.f1⟩ ⟨hs1.out.r2,hs1.out.f2⟩ ⟨hs1.out.r3,hs1.out.f3⟩ ⟨hs1.out.rx,hs1.out.fx⟩)
       go_roundw
       case rel => exact ⟨1,K2,[] ++ [x],by omega,Lib.hid (by simp),by first | rfl | go_num,hE2.out,hp.out,kk.trans (kpd K1.out kb) (fun j hj _ => hj)⟩
       case measure => simp [intOf]
     ·obtain ⟨x0,rfl⟩ : ∃ x0,acc = [x0] := List.length_eq_one_iff.1 hacc.out
      clear hacc hlt hj
      ·have h1 : (0 : Int) < (x : Int) := by omega
       have h1n : 0 < x := by omega
       have h2 : (x : Int) ≤ 134217728 := by omega
       have h2n : x ≤ 134217728 := by omega
       have hcv : IntKind.i64.wrap (x : Int) = (x : Int) := IntWalk.i64_in _ ⟨by omega,by omega⟩
       have hcw : wrap64 (x : Int) = (x : Int) := IntWalk.wrap64_in _ ⟨by omega,by omega⟩
       clear hb hjI
       go_wp2_with (first
        | (go_at_call 91;(refine HV.out.mono ?_;rintro e w1 ⟨rfl,cur1,k1⟩;have K1 := Lib.hid k1;have hs1 := Lib.hid (hst.out.read k1 cur1);have c8 : w1.cell? ⟨bd,9,none⟩ = _ := hs1.out.kd.cell 9;simp at c8;have f8 := hs1.out.kd.frozen 9;obtain ⟨d1,-⟩ := hs1.out.kx.one;clear k1 cur1))
        | (go_at_call 90;(refine (gotv_yes _ _).mono ?_;rintro e w2 ⟨rfl,rfl⟩))
        | (go_at_call 62;(refine (dmust_yes (by simp) 9 _).mono ?_;rintro e w3 ⟨rfl,rfl⟩)))
       have kb : Keeps w2 (w2.setCell ⟨bd,9,none⟩ (.int .i64 (x : Int))) [bd] := (Keeps.refl _ [bd]).setCell (.inr (by simp)) _
       have hb' := hs1.out.kd.set 9 (.int .i64 (x : Int))
       have hp := Lib.hid (hs1.out.put (d' := repD d ([x0] ++ [x])) kb (by simpa [repD] using hb') ⟨hs1.out.rt,hs1.out.ft⟩ ⟨hs1.out.r1,hs1.out.f1⟩ ⟨hs1.out.r2,hs1.out.f2⟩ ⟨hs1.out.r3,hs1.out.f3⟩ ⟨hs1.out.rx,hs1.out.fx⟩)
       go_roundw
       case rel => exact ⟨2,K2,[x0] ++ [x],by omega,Lib.hid (by simp),by first | rfl | go_num,hE2.out,hp.out,kk.trans (kpd K1.out kb) (fun j hj _ => hj)⟩
       case measure => simp [intOf]
     ·obtain ⟨x0,x1,rfl⟩ : ∃ x0 x1,acc = [x0,x1] := by
       have hh := hacc.out
       match acc,hh with
       | [a,b],_ => exact ⟨a,b,rfl⟩
      clear hacc hlt hj
      ·have h1 : (0 : Int) < (x : Int) := by omega
       have h1n : 0 < x := by omega
       have h2 : (x : Int) ≤ 134217728 := by omega
       have h2n : x ≤ 134217728 := by omega
       have hcv : IntKind.i64.wrap (x : Int) = (x : Int) := IntWalk.i64_in _ ⟨by omega,by omega⟩
       have hcw : wrap64 (x : Int) = (x : Int) := IntWalk.wrap64_in _ ⟨by omega,by omega⟩
       clear hb hjI
       go_wp2_with (first
        | (go_at_call 91;(refine HV.out.mono ?_;rintro e w1 ⟨rfl,cur1,k1⟩;have K1 := Lib.hid k1;have hs1 := Lib.hid (hst.out.read k1 cur1);have c8 : w1.cell? ⟨bd,10,none⟩ = _ := hs1.out.kd.cell 10;simp at c8;have f8 := hs1.out.kd.frozen 10;obtain ⟨d1,-⟩ := hs1.out.kx.one;clear k1 cur1))
        | (go_at_call 90;(refine (gotv_yes _ _).mono ?_;rintro e w2 ⟨rfl,rfl⟩))
        | (go_at_call 62;(refine (dmust_yes (by simp) 9 _).mono ?_;rintro e w3 ⟨rfl,rfl⟩)))
       have kb : Keeps w2 (w2.setCell ⟨bd,10,none⟩ (.int .i64 (x : Int))) [bd] := (Keeps.refl _ [bd]).setCell (.inr (by simp)) _
       have hb' := hs1.out.kd.set 10 (.int .i64 (x : Int))
       have hp := Lib.hid (hs1.out.put (d' := repD d ([x0,x1] ++ [x])) kb (by simpa [repD] using hb') ⟨hs1.out.rt,hs1.out.ft⟩ ⟨hs1.out.r1,hs1.out.f1⟩ ⟨hs1.out.r2,hs1.out.f2⟩ ⟨hs1.out.r3,hs1.out.f3⟩ ⟨hs1.out.rx,hs1.out.fx⟩)
       go_roundw
       case rel => exact ⟨3,K2,[x0,x1] ++ [x],by omega,Lib.hid (by simp),by first | rfl | go_num,hE2.out,hp.out,kk.trans (kpd K1.out kb) (fun j hj _ => hj)⟩
       case measure => simp [intOf]
   ·have hRe : Hid (R = .error (varE B k')) := Lib.hid (by rw [← hcr.out,hE.out];unfold repR;rw [if_pos hv])
    have HVE := Lib.hid hv
    obtain ⟨E,hEq⟩ : ∃ E,varE B k' = E := ⟨_,rfl⟩
    rw [hEq] at HV hRe HVE
    clear hv hE hcr hEq
    go_wp2_with (first
     | (go_at_call 91;(refine HV.out.mono ?_;rintro e w1 ⟨rfl,cur1,k1⟩;have K1 := Lib.hid k1;clear k1 cur1))
     | (go_at_call 90;(refine (gotv_no _ E HVE.out _).mono ?_;rintro e w2 ⟨rfl,rfl⟩)))
    rw [hRe.out]
    exact ⟨rfl,kk.trans K1.out (fun j hj _ => by simp at hj;simp [hj]),HVE.out,rfl⟩
  ·obtain rfl : j = 3 := by omega
   have hRe : Hid (R = .ok (acc,k')) := Lib.hid hcr.out.symm
   clear hcr hlt hj
   go_wp2_with fail
   go_end0
   rw [hRe.out]
   exact ⟨kk,rfl,hacc.out,hst.out⟩

set_option maxHeartbeats 2000000 in
theorem smax_any (v : Value) (l : List Int) (w : World) (hv : RdI .i64 w v l) (hn : l.length ≤ 1000000) (h0 : 0 < l.length) (hp : ∀ x ∈ l,0 ≤ x) :
  Calls Tryz.prog 95 #[v] w fun e w' => e = .returned (.int .i64 (mxL l)) ∧ w = w' := by
 obtain ⟨A0,n,cp0,rfl,hnl,-⟩ := hv.form
 have HV := Lib.hid hv
 have HN := Lib.hid hnl
 have HP := Lib.hid hp
 have hn' : n ≤ 1000000 := by omega
 have hn0 : 0 < n := by omega
 clear hv hnl hn h0 hp
 obtain ⟨x0,hx0⟩ : ∃ x,l[0]? = some x := ⟨_,List.getElem?_eq_getElem (by have := HN.out;omega)⟩
 obtain ⟨b,o,rfl,hb,hc⟩ := HV.out.at hx0
 rw [Nat.add_zero] at hc
 have hcap := HV.out.cap
 have hnI : decide ((n : Int) < 1) = false := decide_eq_false (by omega)
 have H1 : Hid (mxL (l.take 1) = x0) := by
  show _ = _
  have := mxL_take hx0
  simp only [Nat.zero_add,List.take_zero] at this
  have h2 := HP.out x0 (List.mem_of_getElem? hx0)
  rw [this,show mxL [] = 0 from rfl]
  omega
 clear hx0
 go_enter Tryz.func95,Tryz.ntmps95
 go_wp2_with fail
 go_loop [3,4] (fun m i => ∃ k : Nat,1 ≤ k ∧ k ≤ n ∧ i = .int .i64 k ∧ m = .int .i64 (mxL (l.take k))) (fun _ i => n - (intOf i).toNat)
 case atStart => exact ⟨1,Nat.le_refl _,by omega,rfl,by rw [H1.out]⟩
 case round =>
  obtain ⟨k,hk1,hk,rfl,rfl⟩ := hrel
  clear hc
  by_cases hlt : k < n
  ·obtain ⟨x,hx⟩ : ∃ x,l[k]? = some x := ⟨_,List.getElem?_eq_getElem (by have := HN.out;omega)⟩
   obtain ⟨b',o',hbo,hb,hc⟩ := HV.out.at hx
   obtain ⟨rfl,rfl⟩ : b = b' ∧ o = o' := by simpa using hbo
   clear hbo
   have hkn : (k : Int) < (n : Int) := by omega
   have HM := Lib.hid (mxL_take hx)
   obtain ⟨M,hM⟩ : ∃ M,M = mxL (l.take k) := ⟨_,rfl⟩
   rw [← hM] at HM ⊢
   clear hM hx
   go_wp2_with fail
   go_round
   case rel => exact ⟨k + 1,by omega,by omega,by go_num,by rw [HM.out];try (congr 1;split <;> omega)⟩
   case measure => simp [intOf];omega
  ·obtain rfl : k = n := by omega
   have e : l.take k = l := List.take_of_length_le (by have := HN.out;omega)
   rw [e]
   go_wp2_with fail
   go_ret
   exact ⟨rfl,rfl⟩

theorem rep_reads {w : World} {bd : Nat} {id g1 g2 g3 a b c : Int} {t n1 n2 n3 x : Value} (h : Blk w bd (dictC id t g1 n1 g2 n2 g3 n3 a b c x) 32) : RdI .i64 w (.slice (some ⟨bd,8,none⟩) 3 3) [a,b,c] := by
 refine ⟨_,_,_,rfl,rfl,(fun e => by cases e),fun h0 => ⟨Nat.le_refl _,bd,8,rfl,h.lt,fun i y hy => ?_⟩⟩
 have hi := (List.getElem?_eq_some_iff.1 hy).1
 have e8 : w.cell? ⟨bd,8,none⟩ = some (.int .i64 a) := h.cell 8
 have e9 : w.cell? ⟨bd,9,none⟩ = some (.int .i64 b) := h.cell 9
 have e10 : w.cell? ⟨bd,10,none⟩ = some (.int .i64 c) := h.cell 10
 have h3 : i = 0 ∨ i = 1 ∨ i = 2 := by simp at hi;omega
 rcases h3 with rfl | rfl | rfl
 ·simp at hy;subst hy;exact e8
 ·simp at hy;subst hy;exact e9
 ·simp at hy;subst hy;exact e10
def conR (B : List Int) (k : Nat) (a b c : Int) : Except Int (List Int × Nat) :=
 if numE B k 134217728 ≠ 0 then .error (numE B k 134217728) else
 if (numX B k 134217728 : Int) < 8 ∨ (numX B k 134217728 : Int) < mxL [a,b,c] then .error 9 else
 if bytesE B (numK B k 134217728) (numX B k 134217728 : Nat) ≠ 0 then .error (bytesE B (numK B k 134217728) (numX B k 134217728 : Nat)) else
 .ok (bytesX B (numK B k 134217728) (numX B k 134217728 : Nat),bytesK B (numK B k 134217728) (numX B k 134217728 : Nat))
def F6End (w : World) (p : Nat) (v : Value) (B : List Int) (bc bd bx N : Nat) (d : DV) (R : Except Int (List Int × Nat)) (e : Ending) (w' : World) : Prop :=
 Keeps w w' [p,bd] ∧ match R with
  | .ok (X,K) => e = .returned (.tuple #[]) ∧ ∃ r,DSt w' p v B K bc bd bx N { d with x := r,X := X }
  | .error n => n ≠ 0 ∧ e = .panicked [raisedBy n false]

set_option maxHeartbeats 4000000 in
theorem f6_any (p k bc bd bx N : Nat) (v : Value) (B : List Int) (d : DV) (w : World) (h : DSt w p v B k bc bd bx N d) (hp : ∀ y ∈ [d.a,d.b,d.c],0 ≤ y) :
  Calls Tryz.prog 92 #[.pointer (some ⟨bc,0,none⟩),.pointer (some ⟨bx,0,none⟩),.pointer (some ⟨bd,0,none⟩)] w (F6End w p v B bc bd bx N d (conR B k d.a d.b d.c)) := by
 obtain ⟨R,hR⟩ : ∃ R,conR B k d.a d.b d.c = R := ⟨_,rfl⟩
 rw [hR]
 unfold conR at hR
 have HNU := Lib.hid (number_any p k 134217728 v B w h.cur (by decide))
 rw [show ((134217728 : Nat) : Int) = 134217728 by decide] at HNU
 have HH := Lib.hid h
 have HPOS := Lib.hid hp
 obtain ⟨d0,-⟩ := h.kc.one
 obtain ⟨M,hM⟩ : ∃ M,mxL [d.a,d.b,d.c] = M := ⟨_,rfl⟩
 have HMX := Lib.hid hM
 rw [hM] at hR
 obtain ⟨E,hEq⟩ : ∃ E,numE B k 134217728 = E := ⟨_,rfl⟩
 obtain ⟨n,hn⟩ : ∃ n,numX B k 134217728 = n := ⟨_,rfl⟩
 obtain ⟨K,hK⟩ : ∃ K,numK B k 134217728 = K := ⟨_,rfl⟩
 rw [hEq,hn,hK] at hR HNU
 have HBY := Lib.hid (fun W (cu : Cur W p v B K) => bytes_any p K (n : Int) v B W cu)
 unfold CurB at HBY
 clear h hp hM hEq hn hK
 by_cases hE : E ≠ 0
 ·rw [if_pos hE] at hR
  have HR := Lib.hid hR
  have HE := Lib.hid hE
  clear hR hE
  go_enter Tryz.func92,Tryz.ntmps92
  go_wp2_with (first
   | (go_at_call 94;(refine HNU.out.mono ?_;rintro e w1 ⟨rfl,cur1,k1⟩;have K1 := Lib.hid k1;have hs1 := Lib.hid (HH.out.read k1 cur1);obtain ⟨d0',-⟩ := hs1.out.kc.one;obtain ⟨d1',-⟩ := hs1.out.kx.one;have RM := Lib.hid (rep_reads hs1.out.kd);clear k1 cur1 d0))
   | (go_at_call 93;(refine (goti_no _ E HE.out _).mono ?_;rintro e w2 ⟨rfl,rfl⟩)))
  rw [← HR.out]
  exact ⟨rfl,K1.out.mono (by simp),HE.out,rfl⟩
 ·rw [if_neg hE] at hR
  have hE0 : E = 0 := by simpa using hE
  subst hE0
  clear hE
  by_cases h8 : (n : Int) < 8
  ·rw [if_pos (.inl h8)] at hR
   have HR := Lib.hid hR
   have h8' : decide ((8 : Int) ≤ (n : Int)) = false := decide_eq_false (by omega)
   have h8n : decide (8 ≤ n) = false := decide_eq_false (by omega)
   clear hR
   go_enter Tryz.func92,Tryz.ntmps92
   go_wp2_with (first
    | (go_at_call 94;(refine HNU.out.mono ?_;rintro e w1 ⟨rfl,cur1,k1⟩;have K1 := Lib.hid k1;have hs1 := Lib.hid (HH.out.read k1 cur1);obtain ⟨d0',-⟩ := hs1.out.kc.one;obtain ⟨d1',-⟩ := hs1.out.kx.one;have RM := Lib.hid (rep_reads hs1.out.kd);clear k1 cur1 d0))
    | (go_at_call 93;(refine (goti_yes _ _).mono ?_;rintro e w2 ⟨rfl,rfl⟩))
    | (go_at_call 95;(refine (smax_any _ [d.a,d.b,d.c] _ RM.out (by simp) (by simp) HPOS.out).mono ?_;rintro e w3 ⟨rfl,rfl⟩;rw [HMX.out]))
    | (go_at_call 62;(refine (dmust_no (by simp [*]) 9 _).mono ?_;rintro e w4 ⟨rfl,rfl⟩)))
   rw [← HR.out]
   exact ⟨rfl,K1.out.mono (by simp),by decide,rfl⟩
  ·have h8' : (8 : Int) ≤ (n : Int) := by omega
   have h8n : 8 ≤ n := by omega
   by_cases hm : (n : Int) < M
   ·rw [if_pos (.inr hm)] at hR
    have HR := Lib.hid hR
    have hm' : decide (M ≤ (n : Int)) = false := decide_eq_false (by omega)
    clear hR h8
    go_enter Tryz.func92,Tryz.ntmps92
    go_wp2_with (first
     | (go_at_call 94;(refine HNU.out.mono ?_;rintro e w1 ⟨rfl,cur1,k1⟩;have K1 := Lib.hid k1;have hs1 := Lib.hid (HH.out.read k1 cur1);obtain ⟨d0',-⟩ := hs1.out.kc.one;obtain ⟨d1',-⟩ := hs1.out.kx.one;have RM := Lib.hid (rep_reads hs1.out.kd);clear k1 cur1 d0))
     | (go_at_call 93;(refine (goti_yes _ _).mono ?_;rintro e w2 ⟨rfl,rfl⟩))
     | (go_at_call 95;(refine (smax_any _ [d.a,d.b,d.c] _ RM.out (by simp) (by simp) HPOS.out).mono ?_;rintro e w3 ⟨rfl,rfl⟩;rw [HMX.out]))
     | (go_at_call 62;(refine (dmust_no (by simp [*]) 9 _).mono ?_;rintro e w4 ⟨rfl,rfl⟩)))
    rw [← HR.out]
    exact ⟨rfl,K1.out.mono (by simp),by decide,rfl⟩
   ·have hm' : M ≤ (n : Int) := by omega
    rw [if_neg (by omega)] at hR
    obtain ⟨E,hEq⟩ : ∃ E,bytesE B K (n : Nat) = E := ⟨_,rfl⟩
    obtain ⟨X,hX⟩ : ∃ X,bytesX B K (n : Nat) = X := ⟨_,rfl⟩
    obtain ⟨K2,hK2⟩ : ∃ X,bytesK B K (n : Nat) = X := ⟨_,rfl⟩
    rw [hEq,hX,hK2] at hR HBY
    clear h8 hm hEq hX hK2
    by_cases hE : E ≠ 0
    ·rw [if_pos hE] at hR
     have HR := Lib.hid hR
     have HE := Lib.hid hE
     clear hR hE
     go_enter Tryz.func92,Tryz.ntmps92
     go_wp2_with (first
      | (go_at_call 94;(refine HNU.out.mono ?_;rintro e w1 ⟨rfl,cur1,k1⟩;have K1 := Lib.hid k1;have hs1 := Lib.hid (HH.out.read k1 cur1);obtain ⟨d0',-⟩ := hs1.out.kc.one;obtain ⟨d1',-⟩ := hs1.out.kx.one;have RM := Lib.hid (rep_reads hs1.out.kd);clear k1 cur1 d0))
      | (go_at_call 93;(refine (goti_yes _ _).mono ?_;rintro e w2 ⟨rfl,rfl⟩))
      | (go_at_call 95;(refine (smax_any _ [d.a,d.b,d.c] _ RM.out (by simp) (by simp) HPOS.out).mono ?_;rintro e w3 ⟨rfl,rfl⟩;rw [HMX.out]))
      | (go_at_call 62;(refine (dmust_yes (by simp [*]) 9 _).mono ?_;rintro e w4 ⟨rfl,rfl⟩))
      | (go_at_call 96;(refine (HBY.out _ hs1.out.cur).mono ?_;rintro e w5 ⟨r5,rfl,rd5,fr5,cur5,k5⟩;obtain ⟨a5,n5,c5,rfl,-,-⟩ := rd5.form;have R5 := Lib.hid rd5;have F5 := Lib.hid (fr5.mono hs1.out.pN.2.2.2.2);have K5 := Lib.hid k5;have hs5 := Lib.hid (hs1.out.read k5 cur5);have c11 : w5.cell? ⟨bd,11,none⟩ = some d.x := hs5.out.kd.cell 11;have f11 := hs5.out.kd.frozen 11;clear rd5 fr5 cur5 k5))
      | (go_at_call 64;(refine (gotb_no _ _ _ E HE.out _).mono ?_;rintro e w6 ⟨rfl,rfl⟩)))
     rw [← HR.out]
     exact ⟨rfl,(K1.out.trans K5.out (fun j hj _ => hj)).mono (by simp),HE.out,rfl⟩
    ·rw [if_neg hE] at hR
     have hE0 : E = 0 := by simpa using hE
     subst hE0
     have HR := Lib.hid hR
     clear hR hE
     go_enter Tryz.func92,Tryz.ntmps92
     go_wp2_with (first
      | (go_at_call 94;(refine HNU.out.mono ?_;rintro e w1 ⟨rfl,cur1,k1⟩;have K1 := Lib.hid k1;have hs1 := Lib.hid (HH.out.read k1 cur1);obtain ⟨d0',-⟩ := hs1.out.kc.one;obtain ⟨d1',-⟩ := hs1.out.kx.one;have RM := Lib.hid (rep_reads hs1.out.kd);clear k1 cur1 d0))
      | (go_at_call 93;(refine (goti_yes _ _).mono ?_;rintro e w2 ⟨rfl,rfl⟩))
      | (go_at_call 95;(refine (smax_any _ [d.a,d.b,d.c] _ RM.out (by simp) (by simp) HPOS.out).mono ?_;rintro e w3 ⟨rfl,rfl⟩;rw [HMX.out]))
      | (go_at_call 62;(refine (dmust_yes (by simp [*]) 9 _).mono ?_;rintro e w4 ⟨rfl,rfl⟩))
      | (go_at_call 96;(refine (HBY.out _ hs1.out.cur).mono ?_;rintro e w5 ⟨r5,rfl,rd5,fr5,cur5,k5⟩;obtain ⟨a5,n5,c5,rfl,-,-⟩ := rd5.form;have R5 := Lib.hid rd5;have F5 := Lib.hid (fr5.mono hs1.out.pN.2.2.2.2);have K5 := Lib.hid k5;have hs5 := Lib.hid (hs1.out.read k5 cur5);have c11 : w5.cell? ⟨bd,11,none⟩ = some d.x := hs5.out.kd.cell 11;have f11 := hs5.out.kd.frozen 11;clear rd5 fr5 cur5 k5))
      | (go_at_call 64;(refine (gotb_yes _ _ _ _).mono ?_;rintro e w6 ⟨rfl,rfl⟩)))
     go_end0
     have kb : Keeps w6 (w6.setCell ⟨bd,11,none⟩ (.slice a5 n5 c5)) [bd] := (Keeps.refl _ [bd]).setCell (.inr (by simp)) _
     have hb' := hs5.out.kd.set 11 (.slice a5 n5 c5)
     have hp := hs5.out.put (d' := { d with x := .slice a5 n5 c5,X := X }) kb (by simpa using hb') ⟨hs5.out.rt,hs5.out.ft⟩ ⟨hs5.out.r1,hs5.out.f1⟩ ⟨hs5.out.r2,hs5.out.f2⟩ ⟨hs5.out.r3,hs5.out.f3⟩ ⟨R5.out,F5.out⟩
     rw [← HR.out]
     exact ⟨kpd (K1.out.trans K5.out (fun j hj _ => hj)) kb,rfl,_,hp⟩


end Go.Proofs.YtcmagccfagijlaaGreat
