/-
  num.read: the deferred function that takes the cursor back; the call. (Printed by mkVH.py.)
-/
import Derived.Test.YtcmagccfagijlaaGreatQ4
namespace Go.Proofs.YtcmagccfagijlaaGreat
set_option linter.unusedVariables false
set_option linter.unusedSimpArgs false
set_option linter.unusedSectionVars false
set_option maxRecDepth 100000
open Go.RowKit

def CurB (w : World) (p : Nat) (v : Value) (B : List Int) (L : List Int) (n : Int) (k' : Nat) (e : Ending) (w' : World) : Prop :=
 ∃ r,e = .returned (.tuple #[r,.int .i64 n]) ∧ RdI .u8 w' r L ∧ Fresh w.heap.size r ∧ Cur w' p v B k' ∧ Keeps w w' [p]

theorem backByte_ok (be bf bx bc : Nat) (u : FrameMode) (w : World) (he : Blk w be #[.int .i64 0] 33) :
  CallsD Tryz.prog 192 #[.pointer (some ⟨be,0,none⟩),.pointer (some ⟨bf,0,none⟩),.pointer (some ⟨bx,0,none⟩),.pointer (some ⟨bc,0,none⟩)] u w fun e u' w' => u' = u ∧ (e = .returned (.tuple #[]) ∧ w' = w) := by
 obtain ⟨e0,-⟩ := he.one
 go_enter_d Tryz.func192,Tryz.ntmps192
 go_wp2_with fail
 go_end0
 exact ⟨rfl,rfl⟩

theorem backByte_bad (be bf bx bc p : Nat) (n k : Int) (z : Value) (x0 x1 : Value) (hn : (n != 0) = true) (u : FrameMode) (w : World) (he : Blk w be #[.int .i64 n] 33) (hf : Blk w bf #[.int .i64 k] 3) (hx : Blk w bx #[z] 5)
  (hc : Blk w bc #[.pointer (some ⟨p,0,none⟩)] 71) (hp : Blk w p #[x0,x1] 127) (hxp : bx ≠ p) :
  CallsD Tryz.prog 192 #[.pointer (some ⟨be,0,none⟩),.pointer (some ⟨bf,0,none⟩),.pointer (some ⟨bx,0,none⟩),.pointer (some ⟨bc,0,none⟩)] u w fun e u' w' => u' = u ∧ (e = .returned (.tuple #[]) ∧ w' = (w.setCell ⟨bx,0,none⟩ (.int .u8 0)).setCell ⟨p,1,none⟩ (.int .i64 k)) := by
 obtain ⟨e0,-⟩ := he.one
 obtain ⟨f0,-⟩ := hf.one
 obtain ⟨z0,z1⟩ := hx.one
 obtain ⟨c0,-⟩ := hc.one
 have p1 := hp.cell 1
 have p2 := hp.frozen 1
 simp at p1
 have hpx := hxp.symm
 clear he hf hx hc hp
 go_enter_d Tryz.func192,Tryz.ntmps192
 go_wp2_with fail
 go_end0
 exact ⟨rfl,rfl⟩

set_option maxHeartbeats 2000000 in
theorem readByte_any (p k k' : Nat) (v : Value) (B : List Int) (w : World) (lb : Array Value) (x : Int) (n : Int) (hc : Cur w p v B k)
  (hg : ∀ w1,Keeps w w1 [] → Calls Tryz.prog 162 lb w1 (CurEnd w1 p v B (.int .u8 x) n k')) :
  Calls Tryz.prog 161 #[.pointer (some ⟨p,0,none⟩),.func (.func 162) #[] lb] w (CurEnd w p v B (.int .u8 (if n = 0 then x else 0)) n (if n = 0 then k' else k)) := by
 have hmf : ∀ (fn : Fn) (first cap : Array Value) (w : World),(Instr.makeFunc fn first cap).run Tryz.prog w = .ok (.func fn first cap) w := fun _ _ _ _ => rfl
 have HG := Lib.hid hg
 obtain ⟨XO,hXO⟩ : ∃ XO,XO = (if n = 0 then x else 0) := ⟨_,rfl⟩
 obtain ⟨KO,hKO⟩ : ∃ KO,KO = (if n = 0 then k' else k) := ⟨_,rfl⟩
 rw [← hXO,← hKO]
 have HXO := Lib.hid hXO
 have HKO := Lib.hid hKO
 clear hXO hKO
 have HC := Lib.hid hc
 obtain ⟨c0,c1,f1⟩ := hc.cells
 obtain ⟨hlp,hlv⟩ := hc.old
 have HLV := Lib.hid hlv
 have hkB := Lib.hid hc.le
 clear hc hg hlv
 go_enter_defers Tryz.func161,Tryz.ntmps161
 go_wp2_with fail
 have k0 : Keeps w ((((w.alloc (.cells #[.pointer (some ⟨p,0,none⟩)] 71)).alloc (.cells #[.int .u8 0] 5)).alloc (.cells #[.int .i64 0] 33)).alloc (.cells #[.int .i64 (k : Int)] 3)) [] := ((((Keeps.refl w []).alloc _).alloc _).alloc _).alloc _
 have q0 := (((Blk.new w #[.pointer (some ⟨p,0,none⟩)] 71).alloc (.cells #[.int .u8 0] 5)).alloc (.cells #[.int .i64 0] 33)).alloc (.cells #[.int .i64 (k : Int)] 3)
 have q1 := ((Blk.new (w.alloc (.cells #[.pointer (some ⟨p,0,none⟩)] 71)) #[.int .u8 0] 5).alloc (.cells #[.int .i64 0] 33)).alloc (.cells #[.int .i64 (k : Int)] 3)
 have q2 := (Blk.new ((w.alloc (.cells #[.pointer (some ⟨p,0,none⟩)] 71)).alloc (.cells #[.int .u8 0] 5)) #[.int .i64 0] 33).alloc (.cells #[.int .i64 (k : Int)] 3)
 have q3 := Blk.new (((w.alloc (.cells #[.pointer (some ⟨p,0,none⟩)] 71)).alloc (.cells #[.int .u8 0] 5)).alloc (.cells #[.int .i64 0] 33)) #[.int .i64 (k : Int)] 3
 simp only [World.size_alloc] at q1 q2 q3
 have hsz : ((((w.alloc (.cells #[.pointer (some ⟨p,0,none⟩)] 71)).alloc (.cells #[.int .u8 0] 5)).alloc (.cells #[.int .i64 0] 33)).alloc (.cells #[.int .i64 (k : Int)] 3)).heap.size = w.heap.size + 4 := by simp
 have HG0 := Lib.hid (HG.out _ k0)
 clear HG c0 c1 f1
 generalize ((((w.alloc (.cells #[.pointer (some ⟨p,0,none⟩)] 71)).alloc (.cells #[.int .u8 0] 5)).alloc (.cells #[.int .i64 0] 33)).alloc (.cells #[.int .i64 (k : Int)] 3)) = W0 at *
 refine HG0.out.mono ?_
 rintro e w1 ⟨rfl,cur1,k1⟩
 skip
 have n0 : w.heap.size ≠ p := by omega
 have n1 : w.heap.size + 1 ≠ p := by omega
 have n2 : w.heap.size + 1 + 1 ≠ p := by omega
 have n3 : w.heap.size + 1 + 1 + 1 ≠ p := by omega
 replace q0 := q0.keeps k1 (by simp;omega)
 replace q1 := q1.keeps k1 (by simp;omega)
 replace q2 := q2.keeps k1 (by simp;omega)
 replace q3 := q3.keeps k1 (by simp;omega)
 replace k0 : Keeps w w1 [p] := (k0.mono (by simp)).trans k1 (fun j hj _ => hj)
 have hs1 := k1.size
 clear k1 HG0
 obtain ⟨x1,x2⟩ := q1.one
 obtain ⟨e1,e2⟩ := q2.one
 have NC := Lib.hid cur1
 clear cur1
 go_wp2_with fail
 have b1 : Blk ((w1.setCell ⟨w.heap.size + 1,0,none⟩ ((.int .u8 x))).setCell ⟨w.heap.size + 1 + 1,0,none⟩ (.int .i64 n)) (w.heap.size + 1) #[(.int .u8 x)] 5 := (q1.set 0 ((.int .u8 x))).setOther (by simp) _
 have b2 : Blk ((w1.setCell ⟨w.heap.size + 1,0,none⟩ ((.int .u8 x))).setCell ⟨w.heap.size + 1 + 1,0,none⟩ (.int .i64 n)) (w.heap.size + 1 + 1) #[.int .i64 n] 33 := (q2.setOther (by simp) _).set 0 (.int .i64 n)
 have b0 : Blk ((w1.setCell ⟨w.heap.size + 1,0,none⟩ ((.int .u8 x))).setCell ⟨w.heap.size + 1 + 1,0,none⟩ (.int .i64 n)) w.heap.size #[.pointer (some ⟨p,0,none⟩)] 71 := (q0.setOther (by dsimp only;omega) _).setOther (by dsimp only;omega) _
 have b3 : Blk ((w1.setCell ⟨w.heap.size + 1,0,none⟩ ((.int .u8 x))).setCell ⟨w.heap.size + 1 + 1,0,none⟩ (.int .i64 n)) (w.heap.size + 1 + 1 + 1) #[.int .i64 (k : Int)] 3 := (q3.setOther (by dsimp only;omega) _).setOther (by dsimp only;omega) _
 have kk : Keeps w ((w1.setCell ⟨w.heap.size + 1,0,none⟩ ((.int .u8 x))).setCell ⟨w.heap.size + 1 + 1,0,none⟩ (.int .i64 n)) [p] := (k0.setCell (.inl (by dsimp only;omega)) _).setCell (.inl (by dsimp only;omega)) _
 have ks : Keeps w1 ((w1.setCell ⟨w.heap.size + 1,0,none⟩ ((.int .u8 x))).setCell ⟨w.heap.size + 1 + 1,0,none⟩ (.int .i64 n)) [w.heap.size + 1,w.heap.size + 1 + 1] := ((Keeps.refl w1 _).setCell (.inr (by simp)) _).setCell (.inr (by simp)) _
 have curA : Cur ((w1.setCell ⟨w.heap.size + 1,0,none⟩ ((.int .u8 x))).setCell ⟨w.heap.size + 1 + 1,0,none⟩ (.int .i64 n)) p v B k' := NC.out.keepsS ks (by simp;omega) (fun ad n' c he h0 hm => by have := HLV.out ad n' c he h0;simp at hm;omega)
 skip
 have sz : ((w1.setCell ⟨w.heap.size + 1,0,none⟩ ((.int .u8 x))).setCell ⟨w.heap.size + 1 + 1,0,none⟩ (.int .i64 n)).heap.size = w1.heap.size := by simp
 clear q0 q1 q2 q3 x1 x2 e1 e2 k0 NC ks
 refine leaves_cons (f := 192) (args := #[.pointer (some ⟨w.heap.size + 1 + 1,0,none⟩),.pointer (some ⟨w.heap.size + 1 + 1 + 1,0,none⟩),.pointer (some ⟨w.heap.size + 1,0,none⟩),.pointer (some ⟨w.heap.size,0,none⟩)]) (by simp) (by simp [go_sem]) ?_
 by_cases hn : n = 0
 ·subst hn
  refine (backByte_ok _ _ _ _ _ _ b2).mono ?_
  rintro e u' w'' ⟨rfl,rfl,rfl⟩
  obtain ⟨x1,-⟩ := b1.one
  obtain ⟨e1,-⟩ := b2.one
  refine ⟨.tuple #[(.int .u8 x),.int .i64 0],by simp only [results,Tryz.results161];go_simp,?_⟩
  have g1 := HXO.out
  have g2 := HKO.out
  rw [if_pos rfl] at g1 g2
  subst g1 g2
  exact ⟨rfl,curA,kk⟩
 ·have hn' : (n != 0) = true := by simp [hn]
  obtain ⟨cv,-⟩ : ∃ cv,cv = v := ⟨_,rfl⟩
  refine (backByte_bad _ _ _ _ p n k _ _ _ hn' _ _ b2 b3 b1 b0 curA.blk n1).mono ?_
  rintro e u' w'' ⟨rfl,rfl,rfl⟩
  have c1 : Blk ((((w1.setCell ⟨w.heap.size + 1,0,none⟩ ((.int .u8 x))).setCell ⟨w.heap.size + 1 + 1,0,none⟩ (.int .i64 n)).setCell ⟨w.heap.size + 1,0,none⟩ (.int .u8 0)).setCell ⟨p,1,none⟩ (.int .i64 (k : Int))) (w.heap.size + 1) #[.int .u8 0] 5 := (b1.set 0 (.int .u8 0)).setOther (by dsimp only;omega) _
  have c2 : Blk ((((w1.setCell ⟨w.heap.size + 1,0,none⟩ ((.int .u8 x))).setCell ⟨w.heap.size + 1 + 1,0,none⟩ (.int .i64 n)).setCell ⟨w.heap.size + 1,0,none⟩ (.int .u8 0)).setCell ⟨p,1,none⟩ (.int .i64 (k : Int))) (w.heap.size + 1 + 1) #[.int .i64 n] 33 := (b2.setOther (by dsimp only;omega) _).setOther (by dsimp only;omega) _
  have ks2 : Keeps ((w1.setCell ⟨w.heap.size + 1,0,none⟩ ((.int .u8 x))).setCell ⟨w.heap.size + 1 + 1,0,none⟩ (.int .i64 n)) (((w1.setCell ⟨w.heap.size + 1,0,none⟩ ((.int .u8 x))).setCell ⟨w.heap.size + 1 + 1,0,none⟩ (.int .i64 n)).setCell ⟨w.heap.size + 1,0,none⟩ (.int .u8 0)) [w.heap.size + 1] := (Keeps.refl ((w1.setCell ⟨w.heap.size + 1,0,none⟩ ((.int .u8 x))).setCell ⟨w.heap.size + 1 + 1,0,none⟩ (.int .i64 n)) _).setCell (.inr (by simp)) _
  have curB : Cur ((((w1.setCell ⟨w.heap.size + 1,0,none⟩ ((.int .u8 x))).setCell ⟨w.heap.size + 1 + 1,0,none⟩ (.int .i64 n)).setCell ⟨w.heap.size + 1,0,none⟩ (.int .u8 0)).setCell ⟨p,1,none⟩ (.int .i64 (k : Int))) p v B k := (curA.keepsS ks2 (by simp;omega) (fun ad n' c he h0 hm => by have := HLV.out ad n' c he h0;simp at hm;omega)).set hkB.out
  have kf : Keeps w ((((w1.setCell ⟨w.heap.size + 1,0,none⟩ ((.int .u8 x))).setCell ⟨w.heap.size + 1 + 1,0,none⟩ (.int .i64 n)).setCell ⟨w.heap.size + 1,0,none⟩ (.int .u8 0)).setCell ⟨p,1,none⟩ (.int .i64 (k : Int))) [p] := (kk.setCell (.inl (by dsimp only;omega)) _).setCell (.inr (by simp)) _
  obtain ⟨x1,-⟩ := c1.one
  obtain ⟨e1,-⟩ := c2.one
  refine ⟨.tuple #[.int .u8 0,.int .i64 n],by simp only [results,Tryz.results161];go_simp,?_⟩
  have g1 := HXO.out
  have g2 := HKO.out
  rw [if_neg hn] at g1 g2
  subst g1 g2
  exact ⟨rfl,curB,kf⟩

theorem backBytes_ok (be bf bx bc : Nat) (u : FrameMode) (w : World) (he : Blk w be #[.int .i64 0] 33) :
  CallsD Tryz.prog 167 #[.pointer (some ⟨be,0,none⟩),.pointer (some ⟨bf,0,none⟩),.pointer (some ⟨bx,0,none⟩),.pointer (some ⟨bc,0,none⟩)] u w fun e u' w' => u' = u ∧ (e = .returned (.tuple #[]) ∧ w' = w) := by
 obtain ⟨e0,-⟩ := he.one
 go_enter_d Tryz.func167,Tryz.ntmps167
 go_wp2_with fail
 go_end0
 exact ⟨rfl,rfl⟩

theorem backBytes_bad (be bf bx bc p : Nat) (n k : Int) (z : Value) (x0 x1 : Value) (hn : (n != 0) = true) (u : FrameMode) (w : World) (he : Blk w be #[.int .i64 n] 33) (hf : Blk w bf #[.int .i64 k] 3) (hx : Blk w bx #[z] 22)
  (hc : Blk w bc #[.pointer (some ⟨p,0,none⟩)] 71) (hp : Blk w p #[x0,x1] 127) (hxp : bx ≠ p) :
  CallsD Tryz.prog 167 #[.pointer (some ⟨be,0,none⟩),.pointer (some ⟨bf,0,none⟩),.pointer (some ⟨bx,0,none⟩),.pointer (some ⟨bc,0,none⟩)] u w fun e u' w' => u' = u ∧ (e = .returned (.tuple #[]) ∧ w' = (w.setCell ⟨bx,0,none⟩ (.slice none 0 0)).setCell ⟨p,1,none⟩ (.int .i64 k)) := by
 obtain ⟨e0,-⟩ := he.one
 obtain ⟨f0,-⟩ := hf.one
 obtain ⟨z0,z1⟩ := hx.one
 obtain ⟨c0,-⟩ := hc.one
 have p1 := hp.cell 1
 have p2 := hp.frozen 1
 simp at p1
 have hpx := hxp.symm
 clear he hf hx hc hp
 go_enter_d Tryz.func167,Tryz.ntmps167
 go_wp2_with fail
 go_end0
 exact ⟨rfl,rfl⟩

set_option maxHeartbeats 2000000 in
theorem readBytes_any (p k k' : Nat) (v : Value) (B : List Int) (w : World) (lb : Array Value) (L : List Int) (n : Int) (hc : Cur w p v B k)
  (hg : ∀ w1,Keeps w w1 [] → Calls Tryz.prog 136 lb w1 (CurB w1 p v B L n k')) :
  Calls Tryz.prog 135 #[.pointer (some ⟨p,0,none⟩),.func (.func 136) #[] lb] w (CurB w p v B (if n = 0 then L else []) n (if n = 0 then k' else k)) := by
 have hmf : ∀ (fn : Fn) (first cap : Array Value) (w : World),(Instr.makeFunc fn first cap).run Tryz.prog w = .ok (.func fn first cap) w := fun _ _ _ _ => rfl
 have HG := Lib.hid hg
 obtain ⟨XO,hXO⟩ : ∃ XO,XO = (if n = 0 then L else []) := ⟨_,rfl⟩
 obtain ⟨KO,hKO⟩ : ∃ KO,KO = (if n = 0 then k' else k) := ⟨_,rfl⟩
 rw [← hXO,← hKO]
 have HXO := Lib.hid hXO
 have HKO := Lib.hid hKO
 clear hXO hKO
 have HC := Lib.hid hc
 obtain ⟨c0,c1,f1⟩ := hc.cells
 obtain ⟨hlp,hlv⟩ := hc.old
 have HLV := Lib.hid hlv
 have hkB := Lib.hid hc.le
 clear hc hg hlv
 go_enter_defers Tryz.func135,Tryz.ntmps135
 go_wp2_with fail
 have k0 : Keeps w ((((w.alloc (.cells #[.pointer (some ⟨p,0,none⟩)] 71)).alloc (.cells #[.slice none 0 0] 22)).alloc (.cells #[.int .i64 0] 33)).alloc (.cells #[.int .i64 (k : Int)] 3)) [] := ((((Keeps.refl w []).alloc _).alloc _).alloc _).alloc _
 have q0 := (((Blk.new w #[.pointer (some ⟨p,0,none⟩)] 71).alloc (.cells #[.slice none 0 0] 22)).alloc (.cells #[.int .i64 0] 33)).alloc (.cells #[.int .i64 (k : Int)] 3)
 have q1 := ((Blk.new (w.alloc (.cells #[.pointer (some ⟨p,0,none⟩)] 71)) #[.slice none 0 0] 22).alloc (.cells #[.int .i64 0] 33)).alloc (.cells #[.int .i64 (k : Int)] 3)
 have q2 := (Blk.new ((w.alloc (.cells #[.pointer (some ⟨p,0,none⟩)] 71)).alloc (.cells #[.slice none 0 0] 22)) #[.int .i64 0] 33).alloc (.cells #[.int .i64 (k : Int)] 3)
 have q3 := Blk.new (((w.alloc (.cells #[.pointer (some ⟨p,0,none⟩)] 71)).alloc (.cells #[.slice none 0 0] 22)).alloc (.cells #[.int .i64 0] 33)) #[.int .i64 (k : Int)] 3
 simp only [World.size_alloc] at q1 q2 q3
 have hsz : ((((w.alloc (.cells #[.pointer (some ⟨p,0,none⟩)] 71)).alloc (.cells #[.slice none 0 0] 22)).alloc (.cells #[.int .i64 0] 33)).alloc (.cells #[.int .i64 (k : Int)] 3)).heap.size = w.heap.size + 4 := by simp
 have HG0 := Lib.hid (HG.out _ k0)
 clear HG c0 c1 f1
 generalize ((((w.alloc (.cells #[.pointer (some ⟨p,0,none⟩)] 71)).alloc (.cells #[.slice none 0 0] 22)).alloc (.cells #[.int .i64 0] 33)).alloc (.cells #[.int .i64 (k : Int)] 3)) = W0 at *
 refine HG0.out.mono ?_
 rintro e w1 ⟨v1,rfl,r1,fr1,cur1,k1⟩
 obtain ⟨a1,m1,cc1,rfl,-,-⟩ := r1.form
 have n0 : w.heap.size ≠ p := by omega
 have n1 : w.heap.size + 1 ≠ p := by omega
 have n2 : w.heap.size + 1 + 1 ≠ p := by omega
 have n3 : w.heap.size + 1 + 1 + 1 ≠ p := by omega
 replace q0 := q0.keeps k1 (by simp;omega)
 replace q1 := q1.keeps k1 (by simp;omega)
 replace q2 := q2.keeps k1 (by simp;omega)
 replace q3 := q3.keeps k1 (by simp;omega)
 replace k0 : Keeps w w1 [p] := (k0.mono (by simp)).trans k1 (fun j hj _ => hj)
 have hs1 := k1.size
 clear k1 HG0
 obtain ⟨x1,x2⟩ := q1.one
 obtain ⟨e1,e2⟩ := q2.one
 have NC := Lib.hid cur1
 clear cur1
 go_wp2_with fail
 have b1 : Blk ((w1.setCell ⟨w.heap.size + 1,0,none⟩ ((.slice a1 m1 cc1))).setCell ⟨w.heap.size + 1 + 1,0,none⟩ (.int .i64 n)) (w.heap.size + 1) #[(.slice a1 m1 cc1)] 22 := (q1.set 0 ((.slice a1 m1 cc1))).setOther (by simp) _
 have b2 : Blk ((w1.setCell ⟨w.heap.size + 1,0,none⟩ ((.slice a1 m1 cc1))).setCell ⟨w.heap.size + 1 + 1,0,none⟩ (.int .i64 n)) (w.heap.size + 1 + 1) #[.int .i64 n] 33 := (q2.setOther (by simp) _).set 0 (.int .i64 n)
 have b0 : Blk ((w1.setCell ⟨w.heap.size + 1,0,none⟩ ((.slice a1 m1 cc1))).setCell ⟨w.heap.size + 1 + 1,0,none⟩ (.int .i64 n)) w.heap.size #[.pointer (some ⟨p,0,none⟩)] 71 := (q0.setOther (by dsimp only;omega) _).setOther (by dsimp only;omega) _
 have b3 : Blk ((w1.setCell ⟨w.heap.size + 1,0,none⟩ ((.slice a1 m1 cc1))).setCell ⟨w.heap.size + 1 + 1,0,none⟩ (.int .i64 n)) (w.heap.size + 1 + 1 + 1) #[.int .i64 (k : Int)] 3 := (q3.setOther (by dsimp only;omega) _).setOther (by dsimp only;omega) _
 have kk : Keeps w ((w1.setCell ⟨w.heap.size + 1,0,none⟩ ((.slice a1 m1 cc1))).setCell ⟨w.heap.size + 1 + 1,0,none⟩ (.int .i64 n)) [p] := (k0.setCell (.inl (by dsimp only;omega)) _).setCell (.inl (by dsimp only;omega)) _
 have ks : Keeps w1 ((w1.setCell ⟨w.heap.size + 1,0,none⟩ ((.slice a1 m1 cc1))).setCell ⟨w.heap.size + 1 + 1,0,none⟩ (.int .i64 n)) [w.heap.size + 1,w.heap.size + 1 + 1] := ((Keeps.refl w1 _).setCell (.inr (by simp)) _).setCell (.inr (by simp)) _
 have curA : Cur ((w1.setCell ⟨w.heap.size + 1,0,none⟩ ((.slice a1 m1 cc1))).setCell ⟨w.heap.size + 1 + 1,0,none⟩ (.int .i64 n)) p v B k' := NC.out.keepsS ks (by simp;omega) (fun ad n' c he h0 hm => by have := HLV.out ad n' c he h0;simp at hm;omega)
 have RA := Lib.hid (r1.keepsS ks (fun ad n' c he h0 hm => by have := fr1 ad n' c he;simp at hm;omega))
 have FA := Lib.hid (fr1.mono (b' := w.heap.size) (by omega))
 clear r1 fr1
 have sz : ((w1.setCell ⟨w.heap.size + 1,0,none⟩ ((.slice a1 m1 cc1))).setCell ⟨w.heap.size + 1 + 1,0,none⟩ (.int .i64 n)).heap.size = w1.heap.size := by simp
 clear q0 q1 q2 q3 x1 x2 e1 e2 k0 NC ks
 refine leaves_cons (f := 167) (args := #[.pointer (some ⟨w.heap.size + 1 + 1,0,none⟩),.pointer (some ⟨w.heap.size + 1 + 1 + 1,0,none⟩),.pointer (some ⟨w.heap.size + 1,0,none⟩),.pointer (some ⟨w.heap.size,0,none⟩)]) (by simp) (by simp [go_sem]) ?_
 by_cases hn : n = 0
 ·subst hn
  refine (backBytes_ok _ _ _ _ _ _ b2).mono ?_
  rintro e u' w'' ⟨rfl,rfl,rfl⟩
  obtain ⟨x1,-⟩ := b1.one
  obtain ⟨e1,-⟩ := b2.one
  refine ⟨.tuple #[(.slice a1 m1 cc1),.int .i64 0],by simp only [results,Tryz.results135];go_simp,?_⟩
  have g1 := HXO.out
  have g2 := HKO.out
  rw [if_pos rfl] at g1 g2
  subst g1 g2
  exact ⟨_,rfl,RA.out,FA.out,curA,kk⟩
 ·have hn' : (n != 0) = true := by simp [hn]
  obtain ⟨cv,-⟩ : ∃ cv,cv = v := ⟨_,rfl⟩
  refine (backBytes_bad _ _ _ _ p n k _ _ _ hn' _ _ b2 b3 b1 b0 curA.blk n1).mono ?_
  rintro e u' w'' ⟨rfl,rfl,rfl⟩
  have c1 : Blk ((((w1.setCell ⟨w.heap.size + 1,0,none⟩ ((.slice a1 m1 cc1))).setCell ⟨w.heap.size + 1 + 1,0,none⟩ (.int .i64 n)).setCell ⟨w.heap.size + 1,0,none⟩ (.slice none 0 0)).setCell ⟨p,1,none⟩ (.int .i64 (k : Int))) (w.heap.size + 1) #[.slice none 0 0] 22 := (b1.set 0 (.slice none 0 0)).setOther (by dsimp only;omega) _
  have c2 : Blk ((((w1.setCell ⟨w.heap.size + 1,0,none⟩ ((.slice a1 m1 cc1))).setCell ⟨w.heap.size + 1 + 1,0,none⟩ (.int .i64 n)).setCell ⟨w.heap.size + 1,0,none⟩ (.slice none 0 0)).setCell ⟨p,1,none⟩ (.int .i64 (k : Int))) (w.heap.size + 1 + 1) #[.int .i64 n] 33 := (b2.setOther (by dsimp only;omega) _).setOther (by dsimp only;omega) _
  have ks2 : Keeps ((w1.setCell ⟨w.heap.size + 1,0,none⟩ ((.slice a1 m1 cc1))).setCell ⟨w.heap.size + 1 + 1,0,none⟩ (.int .i64 n)) (((w1.setCell ⟨w.heap.size + 1,0,none⟩ ((.slice a1 m1 cc1))).setCell ⟨w.heap.size + 1 + 1,0,none⟩ (.int .i64 n)).setCell ⟨w.heap.size + 1,0,none⟩ (.slice none 0 0)) [w.heap.size + 1] := (Keeps.refl ((w1.setCell ⟨w.heap.size + 1,0,none⟩ ((.slice a1 m1 cc1))).setCell ⟨w.heap.size + 1 + 1,0,none⟩ (.int .i64 n)) _).setCell (.inr (by simp)) _
  have curB : Cur ((((w1.setCell ⟨w.heap.size + 1,0,none⟩ ((.slice a1 m1 cc1))).setCell ⟨w.heap.size + 1 + 1,0,none⟩ (.int .i64 n)).setCell ⟨w.heap.size + 1,0,none⟩ (.slice none 0 0)).setCell ⟨p,1,none⟩ (.int .i64 (k : Int))) p v B k := (curA.keepsS ks2 (by simp;omega) (fun ad n' c he h0 hm => by have := HLV.out ad n' c he h0;simp at hm;omega)).set hkB.out
  have kf : Keeps w ((((w1.setCell ⟨w.heap.size + 1,0,none⟩ ((.slice a1 m1 cc1))).setCell ⟨w.heap.size + 1 + 1,0,none⟩ (.int .i64 n)).setCell ⟨w.heap.size + 1,0,none⟩ (.slice none 0 0)).setCell ⟨p,1,none⟩ (.int .i64 (k : Int))) [p] := (kk.setCell (.inl (by dsimp only;omega)) _).setCell (.inr (by simp)) _
  obtain ⟨x1,-⟩ := c1.one
  obtain ⟨e1,-⟩ := c2.one
  refine ⟨.tuple #[.slice none 0 0,.int .i64 n],by simp only [results,Tryz.results135];go_simp,?_⟩
  have g1 := HXO.out
  have g2 := HKO.out
  rw [if_neg hn] at g1 g2
  subst g1 g2
  exact ⟨_,rfl,.nil,.nil,curB,kf⟩

theorem backU64_ok (be bf bx bc : Nat) (u : FrameMode) (w : World) (he : Blk w be #[.int .i64 0] 33) :
  CallsD Tryz.prog 165 #[.pointer (some ⟨be,0,none⟩),.pointer (some ⟨bf,0,none⟩),.pointer (some ⟨bx,0,none⟩),.pointer (some ⟨bc,0,none⟩)] u w fun e u' w' => u' = u ∧ (e = .returned (.tuple #[]) ∧ w' = w) := by
 obtain ⟨e0,-⟩ := he.one
 go_enter_d Tryz.func165,Tryz.ntmps165
 go_wp2_with fail
 go_end0
 exact ⟨rfl,rfl⟩

theorem backU64_bad (be bf bx bc p : Nat) (n k : Int) (z : Value) (x0 x1 : Value) (hn : (n != 0) = true) (u : FrameMode) (w : World) (he : Blk w be #[.int .i64 n] 33) (hf : Blk w bf #[.int .i64 k] 3) (hx : Blk w bx #[z] 95)
  (hc : Blk w bc #[.pointer (some ⟨p,0,none⟩)] 71) (hp : Blk w p #[x0,x1] 127) (hxp : bx ≠ p) :
  CallsD Tryz.prog 165 #[.pointer (some ⟨be,0,none⟩),.pointer (some ⟨bf,0,none⟩),.pointer (some ⟨bx,0,none⟩),.pointer (some ⟨bc,0,none⟩)] u w fun e u' w' => u' = u ∧ (e = .returned (.tuple #[]) ∧ w' = (w.setCell ⟨bx,0,none⟩ (.int .u64 0)).setCell ⟨p,1,none⟩ (.int .i64 k)) := by
 obtain ⟨e0,-⟩ := he.one
 obtain ⟨f0,-⟩ := hf.one
 obtain ⟨z0,z1⟩ := hx.one
 obtain ⟨c0,-⟩ := hc.one
 have p1 := hp.cell 1
 have p2 := hp.frozen 1
 simp at p1
 have hpx := hxp.symm
 clear he hf hx hc hp
 go_enter_d Tryz.func165,Tryz.ntmps165
 go_wp2_with fail
 go_end0
 exact ⟨rfl,rfl⟩

set_option maxHeartbeats 2000000 in
theorem readU64_any (p k k' : Nat) (v : Value) (B : List Int) (w : World) (lb : Array Value) (x : Int) (n : Int) (hc : Cur w p v B k)
  (hg : ∀ w1,Keeps w w1 [] → Calls Tryz.prog 132 lb w1 (CurEnd w1 p v B (.int .u64 x) n k')) :
  Calls Tryz.prog 131 #[.pointer (some ⟨p,0,none⟩),.func (.func 132) #[] lb] w (CurEnd w p v B (.int .u64 (if n = 0 then x else 0)) n (if n = 0 then k' else k)) := by
 have hmf : ∀ (fn : Fn) (first cap : Array Value) (w : World),(Instr.makeFunc fn first cap).run Tryz.prog w = .ok (.func fn first cap) w := fun _ _ _ _ => rfl
 have HG := Lib.hid hg
 obtain ⟨XO,hXO⟩ : ∃ XO,XO = (if n = 0 then x else 0) := ⟨_,rfl⟩
 obtain ⟨KO,hKO⟩ : ∃ KO,KO = (if n = 0 then k' else k) := ⟨_,rfl⟩
 rw [← hXO,← hKO]
 have HXO := Lib.hid hXO
 have HKO := Lib.hid hKO
 clear hXO hKO
 have HC := Lib.hid hc
 obtain ⟨c0,c1,f1⟩ := hc.cells
 obtain ⟨hlp,hlv⟩ := hc.old
 have HLV := Lib.hid hlv
 have hkB := Lib.hid hc.le
 clear hc hg hlv
 go_enter_defers Tryz.func131,Tryz.ntmps131
 go_wp2_with fail
 have k0 : Keeps w ((((w.alloc (.cells #[.pointer (some ⟨p,0,none⟩)] 71)).alloc (.cells #[.int .u64 0] 95)).alloc (.cells #[.int .i64 0] 33)).alloc (.cells #[.int .i64 (k : Int)] 3)) [] := ((((Keeps.refl w []).alloc _).alloc _).alloc _).alloc _
 have q0 := (((Blk.new w #[.pointer (some ⟨p,0,none⟩)] 71).alloc (.cells #[.int .u64 0] 95)).alloc (.cells #[.int .i64 0] 33)).alloc (.cells #[.int .i64 (k : Int)] 3)
 have q1 := ((Blk.new (w.alloc (.cells #[.pointer (some ⟨p,0,none⟩)] 71)) #[.int .u64 0] 95).alloc (.cells #[.int .i64 0] 33)).alloc (.cells #[.int .i64 (k : Int)] 3)
 have q2 := (Blk.new ((w.alloc (.cells #[.pointer (some ⟨p,0,none⟩)] 71)).alloc (.cells #[.int .u64 0] 95)) #[.int .i64 0] 33).alloc (.cells #[.int .i64 (k : Int)] 3)
 have q3 := Blk.new (((w.alloc (.cells #[.pointer (some ⟨p,0,none⟩)] 71)).alloc (.cells #[.int .u64 0] 95)).alloc (.cells #[.int .i64 0] 33)) #[.int .i64 (k : Int)] 3
 simp only [World.size_alloc] at q1 q2 q3
 have hsz : ((((w.alloc (.cells #[.pointer (some ⟨p,0,none⟩)] 71)).alloc (.cells #[.int .u64 0] 95)).alloc (.cells #[.int .i64 0] 33)).alloc (.cells #[.int .i64 (k : Int)] 3)).heap.size = w.heap.size + 4 := by simp
 have HG0 := Lib.hid (HG.out _ k0)
 clear HG c0 c1 f1
 generalize ((((w.alloc (.cells #[.pointer (some ⟨p,0,none⟩)] 71)).alloc (.cells #[.int .u64 0] 95)).alloc (.cells #[.int .i64 0] 33)).alloc (.cells #[.int .i64 (k : Int)] 3)) = W0 at *
 refine HG0.out.mono ?_
 rintro e w1 ⟨rfl,cur1,k1⟩
 skip
 have n0 : w.heap.size ≠ p := by omega
 have n1 : w.heap.size + 1 ≠ p := by omega
 have n2 : w.heap.size + 1 + 1 ≠ p := by omega
 have n3 : w.heap.size + 1 + 1 + 1 ≠ p := by omega
 replace q0 := q0.keeps k1 (by simp;omega)
 replace q1 := q1.keeps k1 (by simp;omega)
 replace q2 := q2.keeps k1 (by simp;omega)
 replace q3 := q3.keeps k1 (by simp;omega)
 replace k0 : Keeps w w1 [p] := (k0.mono (by simp)).trans k1 (fun j hj _ => hj)
 have hs1 := k1.size
 clear k1 HG0
 obtain ⟨x1,x2⟩ := q1.one
 obtain ⟨e1,e2⟩ := q2.one
 have NC := Lib.hid cur1
 clear cur1
 go_wp2_with fail
 have b1 : Blk ((w1.setCell ⟨w.heap.size + 1,0,none⟩ ((.int .u64 x))).setCell ⟨w.heap.size + 1 + 1,0,none⟩ (.int .i64 n)) (w.heap.size + 1) #[(.int .u64 x)] 95 := (q1.set 0 ((.int .u64 x))).setOther (by simp) _
 have b2 : Blk ((w1.setCell ⟨w.heap.size + 1,0,none⟩ ((.int .u64 x))).setCell ⟨w.heap.size + 1 + 1,0,none⟩ (.int .i64 n)) (w.heap.size + 1 + 1) #[.int .i64 n] 33 := (q2.setOther (by simp) _).set 0 (.int .i64 n)
 have b0 : Blk ((w1.setCell ⟨w.heap.size + 1,0,none⟩ ((.int .u64 x))).setCell ⟨w.heap.size + 1 + 1,0,none⟩ (.int .i64 n)) w.heap.size #[.pointer (some ⟨p,0,none⟩)] 71 := (q0.setOther (by dsimp only;omega) _).setOther (by dsimp only;omega) _
 have b3 : Blk ((w1.setCell ⟨w.heap.size + 1,0,none⟩ ((.int .u64 x))).setCell ⟨w.heap.size + 1 + 1,0,none⟩ (.int .i64 n)) (w.heap.size + 1 + 1 + 1) #[.int .i64 (k : Int)] 3 := (q3.setOther (by dsimp only;omega) _).setOther (by dsimp only;omega) _
 have kk : Keeps w ((w1.setCell ⟨w.heap.size + 1,0,none⟩ ((.int .u64 x))).setCell ⟨w.heap.size + 1 + 1,0,none⟩ (.int .i64 n)) [p] := (k0.setCell (.inl (by dsimp only;omega)) _).setCell (.inl (by dsimp only;omega)) _
 have ks : Keeps w1 ((w1.setCell ⟨w.heap.size + 1,0,none⟩ ((.int .u64 x))).setCell ⟨w.heap.size + 1 + 1,0,none⟩ (.int .i64 n)) [w.heap.size + 1,w.heap.size + 1 + 1] := ((Keeps.refl w1 _).setCell (.inr (by simp)) _).setCell (.inr (by simp)) _
 have curA : Cur ((w1.setCell ⟨w.heap.size + 1,0,none⟩ ((.int .u64 x))).setCell ⟨w.heap.size + 1 + 1,0,none⟩ (.int .i64 n)) p v B k' := NC.out.keepsS ks (by simp;omega) (fun ad n' c he h0 hm => by have := HLV.out ad n' c he h0;simp at hm;omega)
 skip
 have sz : ((w1.setCell ⟨w.heap.size + 1,0,none⟩ ((.int .u64 x))).setCell ⟨w.heap.size + 1 + 1,0,none⟩ (.int .i64 n)).heap.size = w1.heap.size := by simp
 clear q0 q1 q2 q3 x1 x2 e1 e2 k0 NC ks
 refine leaves_cons (f := 165) (args := #[.pointer (some ⟨w.heap.size + 1 + 1,0,none⟩),.pointer (some ⟨w.heap.size + 1 + 1 + 1,0,none⟩),.pointer (some ⟨w.heap.size + 1,0,none⟩),.pointer (some ⟨w.heap.size,0,none⟩)]) (by simp) (by simp [go_sem]) ?_
 by_cases hn : n = 0
 ·subst hn
  refine (backU64_ok _ _ _ _ _ _ b2).mono ?_
  rintro e u' w'' ⟨rfl,rfl,rfl⟩
  obtain ⟨x1,-⟩ := b1.one
  obtain ⟨e1,-⟩ := b2.one
  refine ⟨.tuple #[(.int .u64 x),.int .i64 0],by simp only [results,Tryz.results131];go_simp,?_⟩
  have g1 := HXO.out
  have g2 := HKO.out
  rw [if_pos rfl] at g1 g2
  subst g1 g2
  exact ⟨rfl,curA,kk⟩
 ·have hn' : (n != 0) = true := by simp [hn]
  obtain ⟨cv,-⟩ : ∃ cv,cv = v := ⟨_,rfl⟩
  refine (backU64_bad _ _ _ _ p n k _ _ _ hn' _ _ b2 b3 b1 b0 curA.blk n1).mono ?_
  rintro e u' w'' ⟨rfl,rfl,rfl⟩
  have c1 : Blk ((((w1.setCell ⟨w.heap.size + 1,0,none⟩ ((.int .u64 x))).setCell ⟨w.heap.size + 1 + 1,0,none⟩ (.int .i64 n)).setCell ⟨w.heap.size + 1,0,none⟩ (.int .u64 0)).setCell ⟨p,1,none⟩ (.int .i64 (k : Int))) (w.heap.size + 1) #[.int .u64 0] 95 := (b1.set 0 (.int .u64 0)).setOther (by dsimp only;omega) _
  have c2 : Blk ((((w1.setCell ⟨w.heap.size + 1,0,none⟩ ((.int .u64 x))).setCell ⟨w.heap.size + 1 + 1,0,none⟩ (.int .i64 n)).setCell ⟨w.heap.size + 1,0,none⟩ (.int .u64 0)).setCell ⟨p,1,none⟩ (.int .i64 (k : Int))) (w.heap.size + 1 + 1) #[.int .i64 n] 33 := (b2.setOther (by dsimp only;omega) _).setOther (by dsimp only;omega) _
  have ks2 : Keeps ((w1.setCell ⟨w.heap.size + 1,0,none⟩ ((.int .u64 x))).setCell ⟨w.heap.size + 1 + 1,0,none⟩ (.int .i64 n)) (((w1.setCell ⟨w.heap.size + 1,0,none⟩ ((.int .u64 x))).setCell ⟨w.heap.size + 1 + 1,0,none⟩ (.int .i64 n)).setCell ⟨w.heap.size + 1,0,none⟩ (.int .u64 0)) [w.heap.size + 1] := (Keeps.refl ((w1.setCell ⟨w.heap.size + 1,0,none⟩ ((.int .u64 x))).setCell ⟨w.heap.size + 1 + 1,0,none⟩ (.int .i64 n)) _).setCell (.inr (by simp)) _
  have curB : Cur ((((w1.setCell ⟨w.heap.size + 1,0,none⟩ ((.int .u64 x))).setCell ⟨w.heap.size + 1 + 1,0,none⟩ (.int .i64 n)).setCell ⟨w.heap.size + 1,0,none⟩ (.int .u64 0)).setCell ⟨p,1,none⟩ (.int .i64 (k : Int))) p v B k := (curA.keepsS ks2 (by simp;omega) (fun ad n' c he h0 hm => by have := HLV.out ad n' c he h0;simp at hm;omega)).set hkB.out
  have kf : Keeps w ((((w1.setCell ⟨w.heap.size + 1,0,none⟩ ((.int .u64 x))).setCell ⟨w.heap.size + 1 + 1,0,none⟩ (.int .i64 n)).setCell ⟨w.heap.size + 1,0,none⟩ (.int .u64 0)).setCell ⟨p,1,none⟩ (.int .i64 (k : Int))) [p] := (kk.setCell (.inl (by dsimp only;omega)) _).setCell (.inr (by simp)) _
  obtain ⟨x1,-⟩ := c1.one
  obtain ⟨e1,-⟩ := c2.one
  refine ⟨.tuple #[.int .u64 0,.int .i64 n],by simp only [results,Tryz.results131];go_simp,?_⟩
  have g1 := HXO.out
  have g2 := HKO.out
  rw [if_neg hn] at g1 g2
  subst g1 g2
  exact ⟨rfl,curB,kf⟩

theorem backInt_ok (be bf bx bc : Nat) (u : FrameMode) (w : World) (he : Blk w be #[.int .i64 0] 33) :
  CallsD Tryz.prog 166 #[.pointer (some ⟨be,0,none⟩),.pointer (some ⟨bf,0,none⟩),.pointer (some ⟨bx,0,none⟩),.pointer (some ⟨bc,0,none⟩)] u w fun e u' w' => u' = u ∧ (e = .returned (.tuple #[]) ∧ w' = w) := by
 obtain ⟨e0,-⟩ := he.one
 go_enter_d Tryz.func166,Tryz.ntmps166
 go_wp2_with fail
 go_end0
 exact ⟨rfl,rfl⟩

theorem backInt_bad (be bf bx bc p : Nat) (n k : Int) (z : Value) (x0 x1 : Value) (hn : (n != 0) = true) (u : FrameMode) (w : World) (he : Blk w be #[.int .i64 n] 33) (hf : Blk w bf #[.int .i64 k] 3) (hx : Blk w bx #[z] 3)
  (hc : Blk w bc #[.pointer (some ⟨p,0,none⟩)] 71) (hp : Blk w p #[x0,x1] 127) (hxp : bx ≠ p) :
  CallsD Tryz.prog 166 #[.pointer (some ⟨be,0,none⟩),.pointer (some ⟨bf,0,none⟩),.pointer (some ⟨bx,0,none⟩),.pointer (some ⟨bc,0,none⟩)] u w fun e u' w' => u' = u ∧ (e = .returned (.tuple #[]) ∧ w' = (w.setCell ⟨bx,0,none⟩ (.int .i64 0)).setCell ⟨p,1,none⟩ (.int .i64 k)) := by
 obtain ⟨e0,-⟩ := he.one
 obtain ⟨f0,-⟩ := hf.one
 obtain ⟨z0,z1⟩ := hx.one
 obtain ⟨c0,-⟩ := hc.one
 have p1 := hp.cell 1
 have p2 := hp.frozen 1
 simp at p1
 have hpx := hxp.symm
 clear he hf hx hc hp
 go_enter_d Tryz.func166,Tryz.ntmps166
 go_wp2_with fail
 go_end0
 exact ⟨rfl,rfl⟩

set_option maxHeartbeats 2000000 in
theorem readInt_any (p k k' : Nat) (v : Value) (B : List Int) (w : World) (lb : Array Value) (x : Int) (n : Int) (hc : Cur w p v B k)
  (hg : ∀ w1,Keeps w w1 [] → Calls Tryz.prog 134 lb w1 (CurEnd w1 p v B (.int .i64 x) n k')) :
  Calls Tryz.prog 133 #[.pointer (some ⟨p,0,none⟩),.func (.func 134) #[] lb] w (CurEnd w p v B (.int .i64 (if n = 0 then x else 0)) n (if n = 0 then k' else k)) := by
 have hmf : ∀ (fn : Fn) (first cap : Array Value) (w : World),(Instr.makeFunc fn first cap).run Tryz.prog w = .ok (.func fn first cap) w := fun _ _ _ _ => rfl
 have HG := Lib.hid hg
 obtain ⟨XO,hXO⟩ : ∃ XO,XO = (if n = 0 then x else 0) := ⟨_,rfl⟩
 obtain ⟨KO,hKO⟩ : ∃ KO,KO = (if n = 0 then k' else k) := ⟨_,rfl⟩
 rw [← hXO,← hKO]
 have HXO := Lib.hid hXO
 have HKO := Lib.hid hKO
 clear hXO hKO
 have HC := Lib.hid hc
 obtain ⟨c0,c1,f1⟩ := hc.cells
 obtain ⟨hlp,hlv⟩ := hc.old
 have HLV := Lib.hid hlv
 have hkB := Lib.hid hc.le
 clear hc hg hlv
 go_enter_defers Tryz.func133,Tryz.ntmps133
 go_wp2_with fail
 have k0 : Keeps w ((((w.alloc (.cells #[.pointer (some ⟨p,0,none⟩)] 71)).alloc (.cells #[.int .i64 0] 3)).alloc (.cells #[.int .i64 0] 33)).alloc (.cells #[.int .i64 (k : Int)] 3)) [] := ((((Keeps.refl w []).alloc _).alloc _).alloc _).alloc _
 have q0 := (((Blk.new w #[.pointer (some ⟨p,0,none⟩)] 71).alloc (.cells #[.int .i64 0] 3)).alloc (.cells #[.int .i64 0] 33)).alloc (.cells #[.int .i64 (k : Int)] 3)
 have q1 := ((Blk.new (w.alloc (.cells #[.pointer (some ⟨p,0,none⟩)] 71)) #[.int .i64 0] 3).alloc (.cells #[.int .i64 0] 33)).alloc (.cells #[.int .i64 (k : Int)] 3)
 have q2 := (Blk.new ((w.alloc (.cells #[.pointer (some ⟨p,0,none⟩)] 71)).alloc (.cells #[.int .i64 0] 3)) #[.int .i64 0] 33).alloc (.cells #[.int .i64 (k : Int)] 3)
 have q3 := Blk.new (((w.alloc (.cells #[.pointer (some ⟨p,0,none⟩)] 71)).alloc (.cells #[.int .i64 0] 3)).alloc (.cells #[.int .i64 0] 33)) #[.int .i64 (k : Int)] 3
 simp only [World.size_alloc] at q1 q2 q3
 have hsz : ((((w.alloc (.cells #[.pointer (some ⟨p,0,none⟩)] 71)).alloc (.cells #[.int .i64 0] 3)).alloc (.cells #[.int .i64 0] 33)).alloc (.cells #[.int .i64 (k : Int)] 3)).heap.size = w.heap.size + 4 := by simp
 have HG0 := Lib.hid (HG.out _ k0)
 clear HG c0 c1 f1
 generalize ((((w.alloc (.cells #[.pointer (some ⟨p,0,none⟩)] 71)).alloc (.cells #[.int .i64 0] 3)).alloc (.cells #[.int .i64 0] 33)).alloc (.cells #[.int .i64 (k : Int)] 3)) = W0 at *
 refine HG0.out.mono ?_
 rintro e w1 ⟨rfl,cur1,k1⟩
 skip
 have n0 : w.heap.size ≠ p := by omega
 have n1 : w.heap.size + 1 ≠ p := by omega
 have n2 : w.heap.size + 1 + 1 ≠ p := by omega
 have n3 : w.heap.size + 1 + 1 + 1 ≠ p := by omega
 replace q0 := q0.keeps k1 (by simp;omega)
 replace q1 := q1.keeps k1 (by simp;omega)
 replace q2 := q2.keeps k1 (by simp;omega)
 replace q3 := q3.keeps k1 (by simp;omega)
 replace k0 : Keeps w w1 [p] := (k0.mono (by simp)).trans k1 (fun j hj _ => hj)
 have hs1 := k1.size
 clear k1 HG0
 obtain ⟨x1,x2⟩ := q1.one
 obtain ⟨e1,e2⟩ := q2.one
 have NC := Lib.hid cur1
 clear cur1
 go_wp2_with fail
 have b1 : Blk ((w1.setCell ⟨w.heap.size + 1,0,none⟩ ((.int .i64 x))).setCell ⟨w.heap.size + 1 + 1,0,none⟩ (.int .i64 n)) (w.heap.size + 1) #[(.int .i64 x)] 3 := (q1.set 0 ((.int .i64 x))).setOther (by simp) _
 have b2 : Blk ((w1.setCell ⟨w.heap.size + 1,0,none⟩ ((.int .i64 x))).setCell ⟨w.heap.size + 1 + 1,0,none⟩ (.int .i64 n)) (w.heap.size + 1 + 1) #[.int .i64 n] 33 := (q2.setOther (by simp) _).set 0 (.int .i64 n)
 have b0 : Blk ((w1.setCell ⟨w.heap.size + 1,0,none⟩ ((.int .i64 x))).setCell ⟨w.heap.size + 1 + 1,0,none⟩ (.int .i64 n)) w.heap.size #[.pointer (some ⟨p,0,none⟩)] 71 := (q0.setOther (by dsimp only;omega) _).setOther (by dsimp only;omega) _
 have b3 : Blk ((w1.setCell ⟨w.heap.size + 1,0,none⟩ ((.int .i64 x))).setCell ⟨w.heap.size + 1 + 1,0,none⟩ (.int .i64 n)) (w.heap.size + 1 + 1 + 1) #[.int .i64 (k : Int)] 3 := (q3.setOther (by dsimp only;omega) _).setOther (by dsimp only;omega) _
 have kk : Keeps w ((w1.setCell ⟨w.heap.size + 1,0,none⟩ ((.int .i64 x))).setCell ⟨w.heap.size + 1 + 1,0,none⟩ (.int .i64 n)) [p] := (k0.setCell (.inl (by dsimp only;omega)) _).setCell (.inl (by dsimp only;omega)) _
 have ks : Keeps w1 ((w1.setCell ⟨w.heap.size + 1,0,none⟩ ((.int .i64 x))).setCell ⟨w.heap.size + 1 + 1,0,none⟩ (.int .i64 n)) [w.heap.size + 1,w.heap.size + 1 + 1] := ((Keeps.refl w1 _).setCell (.inr (by simp)) _).setCell (.inr (by simp)) _
 have curA : Cur ((w1.setCell ⟨w.heap.size + 1,0,none⟩ ((.int .i64 x))).setCell ⟨w.heap.size + 1 + 1,0,none⟩ (.int .i64 n)) p v B k' := NC.out.keepsS ks (by simp;omega) (fun ad n' c he h0 hm => by have := HLV.out ad n' c he h0;simp at hm;omega)
 skip
 have sz : ((w1.setCell ⟨w.heap.size + 1,0,none⟩ ((.int .i64 x))).setCell ⟨w.heap.size + 1 + 1,0,none⟩ (.int .i64 n)).heap.size = w1.heap.size := by simp
 clear q0 q1 q2 q3 x1 x2 e1 e2 k0 NC ks
 refine leaves_cons (f := 166) (args := #[.pointer (some ⟨w.heap.size + 1 + 1,0,none⟩),.pointer (some ⟨w.heap.size + 1 + 1 + 1,0,none⟩),.pointer (some ⟨w.heap.size + 1,0,none⟩),.pointer (some ⟨w.heap.size,0,none⟩)]) (by simp) (by simp [go_sem]) ?_
 by_cases hn : n = 0
 ·subst hn
  refine (backInt_ok _ _ _ _ _ _ b2).mono ?_
  rintro e u' w'' ⟨rfl,rfl,rfl⟩
  obtain ⟨x1,-⟩ := b1.one
  obtain ⟨e1,-⟩ := b2.one
  refine ⟨.tuple #[(.int .i64 x),.int .i64 0],by simp only [results,Tryz.results133];go_simp,?_⟩
  have g1 := HXO.out
  have g2 := HKO.out
  rw [if_pos rfl] at g1 g2
  subst g1 g2
  exact ⟨rfl,curA,kk⟩
 ·have hn' : (n != 0) = true := by simp [hn]
  obtain ⟨cv,-⟩ : ∃ cv,cv = v := ⟨_,rfl⟩
  refine (backInt_bad _ _ _ _ p n k _ _ _ hn' _ _ b2 b3 b1 b0 curA.blk n1).mono ?_
  rintro e u' w'' ⟨rfl,rfl,rfl⟩
  have c1 : Blk ((((w1.setCell ⟨w.heap.size + 1,0,none⟩ ((.int .i64 x))).setCell ⟨w.heap.size + 1 + 1,0,none⟩ (.int .i64 n)).setCell ⟨w.heap.size + 1,0,none⟩ (.int .i64 0)).setCell ⟨p,1,none⟩ (.int .i64 (k : Int))) (w.heap.size + 1) #[.int .i64 0] 3 := (b1.set 0 (.int .i64 0)).setOther (by dsimp only;omega) _
  have c2 : Blk ((((w1.setCell ⟨w.heap.size + 1,0,none⟩ ((.int .i64 x))).setCell ⟨w.heap.size + 1 + 1,0,none⟩ (.int .i64 n)).setCell ⟨w.heap.size + 1,0,none⟩ (.int .i64 0)).setCell ⟨p,1,none⟩ (.int .i64 (k : Int))) (w.heap.size + 1 + 1) #[.int .i64 n] 33 := (b2.setOther (by dsimp only;omega) _).setOther (by dsimp only;omega) _
  have ks2 : Keeps ((w1.setCell ⟨w.heap.size + 1,0,none⟩ ((.int .i64 x))).setCell ⟨w.heap.size + 1 + 1,0,none⟩ (.int .i64 n)) (((w1.setCell ⟨w.heap.size + 1,0,none⟩ ((.int .i64 x))).setCell ⟨w.heap.size + 1 + 1,0,none⟩ (.int .i64 n)).setCell ⟨w.heap.size + 1,0,none⟩ (.int .i64 0)) [w.heap.size + 1] := (Keeps.refl ((w1.setCell ⟨w.heap.size + 1,0,none⟩ ((.int .i64 x))).setCell ⟨w.heap.size + 1 + 1,0,none⟩ (.int .i64 n)) _).setCell (.inr (by simp)) _
  have curB : Cur ((((w1.setCell ⟨w.heap.size + 1,0,none⟩ ((.int .i64 x))).setCell ⟨w.heap.size + 1 + 1,0,none⟩ (.int .i64 n)).setCell ⟨w.heap.size + 1,0,none⟩ (.int .i64 0)).setCell ⟨p,1,none⟩ (.int .i64 (k : Int))) p v B k := (curA.keepsS ks2 (by simp;omega) (fun ad n' c he h0 hm => by have := HLV.out ad n' c he h0;simp at hm;omega)).set hkB.out
  have kf : Keeps w ((((w1.setCell ⟨w.heap.size + 1,0,none⟩ ((.int .i64 x))).setCell ⟨w.heap.size + 1 + 1,0,none⟩ (.int .i64 n)).setCell ⟨w.heap.size + 1,0,none⟩ (.int .i64 0)).setCell ⟨p,1,none⟩ (.int .i64 (k : Int))) [p] := (kk.setCell (.inl (by dsimp only;omega)) _).setCell (.inr (by simp)) _
  obtain ⟨x1,-⟩ := c1.one
  obtain ⟨e1,-⟩ := c2.one
  refine ⟨.tuple #[.int .i64 0,.int .i64 n],by simp only [results,Tryz.results133];go_simp,?_⟩
  have g1 := HXO.out
  have g2 := HKO.out
  rw [if_neg hn] at g1 g2
  subst g1 g2
  exact ⟨rfl,curB,kf⟩


end Go.Proofs.YtcmagccfagijlaaGreat
