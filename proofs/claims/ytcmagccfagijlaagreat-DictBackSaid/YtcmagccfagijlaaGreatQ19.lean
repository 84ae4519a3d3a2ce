/-
  Walks over package dict: full as a whole. (Printed by mkGc.py.)
-/
import Derived.Test.YtcmagccfagijlaaGreatQ18
import Derived.Test.YtcmagccfagijlaaGreatQ6
namespace Go.Proofs.YtcmagccfagijlaaGreat
set_option linter.unusedVariables false
set_option linter.unusedSimpArgs false
set_option linter.unusedSectionVars false
set_option maxRecDepth 100000
open Go.RowKit

structure DD where
 id : Int
 T : List Int
 g1 : Int
 L1 : List Int
 g2 : Int
 L2 : List Int
 g3 : Int
 L3 : List Int
 a : Int
 b : Int
 c : Int
 X : List Int
def getD3 (B : List Int) (k : Nat) (d : DD) : Except Int DD :=
 match contR B 3 k [] with
 | .error n => .error n
 | .ok (acc,k1) =>
  match conR B k1 ((acc.map (fun (x : Nat) => (x : Int))).getD 0 0) ((acc.map (fun (x : Nat) => (x : Int))).getD 1 0) ((acc.map (fun (x : Nat) => (x : Int))).getD 2 0) with
  | .error n => .error n
  | .ok (X,k2) => if k2 = B.length then .ok { d with a := (acc.map (fun (x : Nat) => (x : Int))).getD 0 0,b := (acc.map (fun (x : Nat) => (x : Int))).getD 1 0,c := (acc.map (fun (x : Nat) => (x : Int))).getD 2 0,X := X } else .error 4
def getD2 (B : List Int) (k : Nat) (d : DD) : Except Int DD :=
 match descP ((B.drop k).take 1024) 28 8 with
 | .error n => .error n
 | .ok (g2,L2,m2) =>
  match descP ((B.drop (k + m2)).take 1024) 44 9 with
  | .error n => .error n
  | .ok (g3,L3,m3) =>
   match descP ((B.drop (k + m2 + m3)).take 1024) 44 9 with
   | .error n => .error n
   | .ok (g1,L1,m1) => getD3 B (k + m2 + m3 + m1) { d with g1 := (g1 : Nat),L1 := L1,g2 := (g2 : Nat),L2 := L2,g3 := (g3 : Nat),L3 := L3 }
def getD (B : List Int) (k : Nat) : Except Int DD :=
 if bytesE B k 4 ≠ 0 then .error (bytesE B k 4) else
 if wordL (bytesX B k 4) = 0 then .error 9 else
 match getW B (bytesK B k 4) with
 | .error n => .error n
 | .ok (T,k1) => getD2 B k1 ⟨wordL (bytesX B k 4),T,0,[],0,[],0,[],0,0,0,[]⟩

def GotD (w : World) (p : Nat) (R : Except Int DD) (e : Ending) (w' : World) : Prop :=
 Keeps w w' [p] ∧ match R with
  | .ok D => ∃ t n1 n2 n3 x,e = .returned (.agg (dictC D.id t D.g1 n1 D.g2 n2 D.g3 n3 D.a D.b D.c x)) ∧ RdI .i64 w' t D.T ∧ RdI .i64 w' n1 D.L1 ∧ RdI .i64 w' n2 D.L2 ∧ RdI .i64 w' n3 D.L3 ∧ RdI .u8 w' x D.X ∧ Fresh w.heap.size t ∧ Fresh w.heap.size n1 ∧ Fresh w.heap.size n2 ∧ Fresh w.heap.size n3 ∧ Fresh w.heap.size x
  | .error n => n ≠ 0 ∧ e = .panicked [raisedBy n false]

theorem f7_yes (p k bc bd bx N : Nat) (v : Value) (B : List Int) (d : DV) (w : World) (h : DSt w p v B k bc bd bx N d) (hk : k = B.length) :
  Calls Tryz.prog 97 #[.pointer (some ⟨bc,0,none⟩)] w fun e w' => e = .returned (.tuple #[]) ∧ Keeps w w' [] := by
 have HL := Lib.hid (left_any p k v B w h.cur)
 rw [show (B.length : Int) - (k : Int) = 0 by omega] at HL
 obtain ⟨d0,-⟩ := h.kc.one
 clear h hk
 go_enter Tryz.func97,Tryz.ntmps97
 go_wp2_with (first
  | (go_at_call 98;(refine HL.out.mono ?_;rintro e w1 ⟨rfl,m1,rfl⟩))
  | (go_at_call 62;(refine (dmust_yes (by simp) 4 _).mono ?_;rintro e w2 ⟨rfl,rfl⟩)))
 go_end0
 exact ⟨rfl,(Keeps.refl _ []).drewN _⟩

theorem f7_no (p k bc bd bx N : Nat) (v : Value) (B : List Int) (d : DV) (w : World) (h : DSt w p v B k bc bd bx N d) (hk : k ≠ B.length) :
  Calls Tryz.prog 97 #[.pointer (some ⟨bc,0,none⟩)] w fun e w' => e = .panicked [raisedBy 4 false] ∧ Keeps w w' [] := by
 have HL := Lib.hid (left_any p k v B w h.cur)
 have hle := h.cur.le
 obtain ⟨x,hx⟩ : ∃ x : Int,(B.length : Int) - (k : Int) = x := ⟨_,rfl⟩
 rw [hx] at HL
 have hb : (x == 0) = false := by simp;omega
 obtain ⟨d0,-⟩ := h.kc.one
 clear h hk hx hle
 go_enter Tryz.func97,Tryz.ntmps97
 go_wp2_with (first
  | (go_at_call 98;(refine HL.out.mono ?_;rintro e w1 ⟨rfl,m1,rfl⟩))
  | (go_at_call 62;(refine (dmust_no (by simp [hb]) 4 _).mono ?_;rintro e w2 ⟨rfl,rfl⟩)))
 exact ⟨rfl,rfl,(Keeps.refl _ []).drewN _⟩

def Tab (W : World) (lo q0 q1 q2 : Nat) (to : Addr) (s g : Int) : Prop :=
 Blk W q0 #[.pointer (some to)] 77 ∧ Blk W q1 #[.int .i64 s] 3 ∧ Blk W q2 #[.int .i64 g] 3 ∧ lo ≤ q0 ∧ lo ≤ q1 ∧ lo ≤ q2
theorem Tab.keeps {W W' : World} {lo q0 q1 q2 : Nat} {to : Addr} {s g : Int} {S : List Nat} (h : Tab W lo q0 q1 q2 to s g) (kk : Keeps W W' S) (hS : ∀ j ∈ S,j < lo) : Tab W' lo q0 q1 q2 to s g := by
 obtain ⟨h0,h1,h2,l0,l1,l2⟩ := h
 have hn : ∀ q,lo ≤ q → q ∉ S := fun q hq hm => by have := hS q hm;omega
 exact ⟨h0.keeps kk (hn _ l0),h1.keeps kk (hn _ l1),h2.keeps kk (hn _ l2),l0,l1,l2⟩
theorem full1_at (bc lo : Nat) (to : Addr) (s g : Int) (w : World) (hlo : lo ≤ w.heap.size) : Calls Tryz.prog 78 #[.pointer (some to),.int .i64 s,.int .i64 g,.pointer (some ⟨bc,0,none⟩)] w fun e w' =>
  (∃ q0 q1 q2,e = .returned (.func (.func 79) #[] #[.pointer (some ⟨bc,0,none⟩),.pointer (some ⟨q1,0,none⟩),.pointer (some ⟨q2,0,none⟩),.pointer (some ⟨q0,0,none⟩)]) ∧ Tab w' lo q0 q1 q2 to s g) ∧ Keeps w w' [] := by
 have b0 := Blk.new w #[.pointer (some to)] 77
 have b1 := Blk.new (w.alloc (.cells #[.pointer (some to)] 77)) #[.int .i64 s] 3
 have b2 := Blk.new ((w.alloc (.cells #[.pointer (some to)] 77)).alloc (.cells #[.int .i64 s] 3)) #[.int .i64 g] 3
 have b0' := (b0.alloc (.cells #[.int .i64 s] 3)).alloc (.cells #[.int .i64 g] 3)
 have b1' := b1.alloc (.cells #[.int .i64 g] 3)
 simp only [World.size_alloc] at b1' b2
 go_enter Tryz.func78,Tryz.ntmps78
 go_wp2_with fail
 go_ret
 exact ⟨⟨_,_,_,rfl,b0',b1',b2,by omega,by omega,by omega⟩,((((Keeps.refl _ _).alloc _).alloc _).alloc _)⟩

theorem f6_at (p k bc bd bx N : Nat) (v : Value) (B : List Int) (d : DV) (w : World) (h : DSt w p v B k bc bd bx N d) {a b c : Int} (ea : d.a = a) (eb : d.b = b) (ec : d.c = c) (hp : 0 ≤ a ∧ 0 ≤ b ∧ 0 ≤ c) {R : Except Int (List Int × Nat)} (hR : conR B k a b c = R) :
  Calls Tryz.prog 92 #[.pointer (some ⟨bc,0,none⟩),.pointer (some ⟨bx,0,none⟩),.pointer (some ⟨bd,0,none⟩)] w (F6End w p v B bc bd bx N d R) := by
 subst ea eb ec hR
 exact f6_any p k bc bd bx N v B d w h (by intro y hy;simp at hy;omega)
theorem finK {w W W' : World} {p bd : Nat} (h : Keeps w W []) (k : Keeps W W' [p,bd]) (hb : w.heap.size ≤ bd) : Keeps w W' [p] :=
 (h.mono (S' := [p]) (by simp)).trans k (fun j hj hlt => by simp at hj;rcases hj with hj | hj <;> simp <;> omega)

set_option maxHeartbeats 16000000 in
theorem full_any (p k : Nat) (v : Value) (B : List Int) (w : World) (hc : Cur w p v B k) :
  Calls Tryz.prog 48 #[.pointer (some ⟨p,0,none⟩)] w (GotD w p (getD B k)) := by
 obtain ⟨R,hR⟩ : ∃ R,getD B k = R := ⟨_,rfl⟩
 rw [hR]
 unfold getD at hR
 by_cases hE : bytesE B k 4 ≠ 0
 ·rw [if_pos hE] at hR
  refine (full_short p k v B w hc hE).mono ?_
  rintro e w' ⟨rfl,kk⟩
  rw [← hR]
  exact ⟨kk,hE,rfl⟩
 rw [if_neg hE] at hR
 by_cases hZ : wordL (bytesX B k 4) = 0
 ·rw [if_pos hZ] at hR
  refine (full_zero p k v B w hc (by simpa using hE) hZ).mono ?_
  rintro e w' ⟨rfl,kk⟩
  rw [← hR]
  exact ⟨kk,by decide,rfl⟩
 rw [if_neg hZ] at hR
 have HR := Lib.hid hR
 have HE : Hid (bytesE B k 4 = 0) := Lib.hid (by simpa using hE)
 have HZ := Lib.hid hZ
 have HC := Lib.hid (fun w1 (k1 : Keeps w w1 []) => hc.keeps k1)
 have hlp := hc.old.1
 have HV := Lib.hid (hc.old.2)
 have z0 := ((Blk.new w #[.pointer (some ⟨p,0,none⟩)] 71).alloc (.cells zeroC 32)).alloc (.cells #[.pointer (some ⟨w.heap.size + 1,1,none⟩)] 105)
 have z1 := (Blk.new (w.alloc (.cells #[.pointer (some ⟨p,0,none⟩)] 71)) zeroC 32).alloc (.cells #[.pointer (some ⟨w.heap.size + 1,1,none⟩)] 105)
 have z2 := Blk.new ((w.alloc (.cells #[.pointer (some ⟨p,0,none⟩)] 71)).alloc (.cells zeroC 32)) #[.pointer (some ⟨w.heap.size + 1,1,none⟩)] 105
 have zk : Keeps w (((w.alloc (.cells #[.pointer (some ⟨p,0,none⟩)] 71)).alloc (.cells zeroC 32)).alloc (.cells #[.pointer (some ⟨w.heap.size + 1,1,none⟩)] 105)) [] := (((Keeps.refl w []).alloc _).alloc _).alloc _
 simp only [World.size_alloc] at z1 z2
 clear hc hR hE hZ
 go_enter Tryz.func48,Tryz.ntmps48
 go_wp2_with fail
 generalize (((w.alloc (.cells #[.pointer (some ⟨p,0,none⟩)] 71)).alloc (.cells zeroC 32)).alloc (.cells #[.pointer (some ⟨w.heap.size + 1,1,none⟩)] 105)) = W at *
 refine wp_region_held_drew (S := (fun w' => Blk w' w.heap.size #[.pointer (some ⟨p,0,none⟩)] 71 ∧ Blk w' (w.heap.size + 1) zeroC 32 ∧ Blk w' (w.heap.size + 1 + 1) #[.pointer (some ⟨w.heap.size + 1,1,none⟩)] 105 ∧ Keeps w w' [])) (by kernel_rfl) ⟨z0.drew,z1.drew,z2.drew,zk.drew⟩ (fun hHeld => ?_)
 refine takeM 0 rfl (by intro w9 hSw;obtain ⟨hS1,hS2,hS3,-⟩ := hSw;obtain ⟨q0,-⟩ := hS1.one;obtain ⟨q3,-⟩ := hS3.one;clear hS1 hS2 hS3;go_simp;(try with_reducible rfl)) ?_
 try simp only [Act.put,stA,stZ,stS]
 refine takeM 1 rfl (by intro w9 hSw;obtain ⟨hS1,hS2,hS3,-⟩ := hSw;obtain ⟨q0,-⟩ := hS1.one;obtain ⟨q3,-⟩ := hS3.one;clear hS1 hS2 hS3;go_simp;(try with_reducible rfl)) ?_
 try simp only [Act.put,stA,stZ,stS]
 refine takeM 2 rfl (by intro w9 hSw;obtain ⟨hS1,hS2,hS3,-⟩ := hSw;obtain ⟨q0,-⟩ := hS1.one;obtain ⟨q3,-⟩ := hS3.one;clear hS1 hS2 hS3;go_simp;(try with_reducible rfl)) ?_
 try simp only [Act.put,stA,stZ,stS]
 refine takeM 3 rfl (by intro w9 hSw;obtain ⟨hS1,hS2,hS3,-⟩ := hSw;obtain ⟨q0,-⟩ := hS1.one;obtain ⟨q3,-⟩ := hS3.one;clear hS1 hS2 hS3;go_simp;(try with_reducible rfl)) ?_
 try simp only [Act.put,stA,stZ,stS]
 refine takeM 4 rfl (by intro w9 hSw;obtain ⟨hS1,hS2,hS3,-⟩ := hSw;obtain ⟨q0,-⟩ := hS1.one;obtain ⟨q3,-⟩ := hS3.one;clear hS1 hS2 hS3;go_simp;(try with_reducible rfl)) ?_
 try simp only [Act.put,stA,stZ,stS]
 refine takeM 5 rfl (by intro w9 hSw;obtain ⟨hS1,hS2,hS3,-⟩ := hSw;obtain ⟨q0,-⟩ := hS1.one;obtain ⟨q3,-⟩ := hS3.one;clear hS1 hS2 hS3;go_simp;(try with_reducible rfl)) ?_
 try simp only [Act.put,stA,stZ,stS]
 refine takeM 6 rfl (by intro w9 hSw;obtain ⟨hS1,hS2,hS3,-⟩ := hSw;obtain ⟨q0,-⟩ := hS1.one;obtain ⟨q3,-⟩ := hS3.one;clear hS1 hS2 hS3;go_simp;(try with_reducible rfl)) ?_
 try simp only [Act.put,stA,stZ,stS]
 refine takeM 8 rfl (by intro w9 hSw;obtain ⟨hS1,hS2,hS3,-⟩ := hSw;obtain ⟨q0,-⟩ := hS1.one;obtain ⟨q3,-⟩ := hS3.one;clear hS1 hS2 hS3;go_simp;(try with_reducible rfl)) ?_
 try simp only [Act.put,stA,stZ,stS]
 refine takeM 9 rfl (by intro w9 hSw;obtain ⟨hS1,hS2,hS3,-⟩ := hSw;obtain ⟨q0,-⟩ := hS1.one;obtain ⟨q3,-⟩ := hS3.one;clear hS1 hS2 hS3;go_simp;(try with_reducible rfl)) ?_
 try simp only [Act.put,stA,stZ,stS]
 refine takeM 10 rfl (by intro w9 hSw;obtain ⟨hS1,hS2,hS3,-⟩ := hSw;obtain ⟨q0,-⟩ := hS1.one;obtain ⟨q3,-⟩ := hS3.one;clear hS1 hS2 hS3;go_simp;(try with_reducible rfl)) ?_
 try simp only [Act.put,stA,stZ,stS]
 refine takeM 11 rfl (by intro w9 hSw;obtain ⟨hS1,hS2,hS3,-⟩ := hSw;obtain ⟨q0,-⟩ := hS1.one;obtain ⟨q3,-⟩ := hS3.one;clear hS1 hS2 hS3;go_simp;(try with_reducible rfl)) ?_
 try simp only [Act.put,stA,stZ,stS]
 refine takeM 13 rfl (by intro w9 hSw;obtain ⟨hS1,hS2,hS3,-⟩ := hSw;obtain ⟨q0,-⟩ := hS1.one;obtain ⟨q3,-⟩ := hS3.one;clear hS1 hS2 hS3;go_simp;(try with_reducible rfl)) ?_
 try simp only [Act.put,stA,stZ,stS]
 refine takeM 14 rfl (by intro w9 hSw;obtain ⟨hS1,hS2,hS3,-⟩ := hSw;obtain ⟨q0,-⟩ := hS1.one;obtain ⟨q3,-⟩ := hS3.one;clear hS1 hS2 hS3;go_simp;(try with_reducible rfl)) ?_
 try simp only [Act.put,stA,stZ,stS]
 refine takeM 15 rfl (by intro w9 hSw;obtain ⟨hS1,hS2,hS3,-⟩ := hSw;obtain ⟨q0,-⟩ := hS1.one;obtain ⟨q3,-⟩ := hS3.one;clear hS1 hS2 hS3;go_simp;(try with_reducible rfl)) ?_
 try simp only [Act.put,stA,stZ,stS]
 refine takeM 16 rfl (by intro w9 hSw;obtain ⟨hS1,hS2,hS3,-⟩ := hSw;obtain ⟨q0,-⟩ := hS1.one;obtain ⟨q3,-⟩ := hS3.one;clear hS1 hS2 hS3;go_simp;(try with_reducible rfl)) ?_
 try simp only [Act.put,stA,stZ,stS]
 refine takeM 18 rfl (by intro w9 hSw;obtain ⟨hS1,hS2,hS3,-⟩ := hSw;obtain ⟨q0,-⟩ := hS1.one;obtain ⟨q3,-⟩ := hS3.one;clear hS1 hS2 hS3;go_simp;(try with_reducible rfl)) ?_
 try simp only [Act.put,stA,stZ,stS]
 refine takeM 19 rfl (by intro w9 hSw;obtain ⟨hS1,hS2,hS3,-⟩ := hSw;obtain ⟨q0,-⟩ := hS1.one;obtain ⟨q3,-⟩ := hS3.one;clear hS1 hS2 hS3;go_simp;(try with_reducible rfl)) ?_
 try simp only [Act.put,stA,stZ,stS]
 refine takeM 20 rfl (by intro w9 hSw;obtain ⟨hS1,hS2,hS3,-⟩ := hSw;obtain ⟨q0,-⟩ := hS1.one;obtain ⟨q3,-⟩ := hS3.one;clear hS1 hS2 hS3;go_simp;(try with_reducible rfl)) ?_
 try simp only [Act.put,stA,stZ,stS]
 refine takeM 23 rfl (by intro w9 hSw;obtain ⟨hS1,hS2,hS3,-⟩ := hSw;obtain ⟨q0,-⟩ := hS1.one;obtain ⟨q3,-⟩ := hS3.one;clear hS1 hS2 hS3;go_simp;(try with_reducible rfl)) ?_
 try simp only [Act.put,stA,stZ,stS]
 refine callL (i := 7) rfl (by kernel_rfl) (fun Kont hK => ?_)
 go_simp
 go_at_call 78;refine (full1_at _ (w.heap.size + 3) _ _ _ _ (by have := hHeld.2.2.1.lt;omega)).mono ?_;rintro e w7 ⟨⟨a7,b7,c7,rfl,tab7⟩,kk⟩;have kk7 := Lib.hid kk;have T7 := Lib.hid tab7;clear tab7
 go_wp2_with fail
 refine hK.out _ _ ?_ (fun hHeld => ?_)
 ·(exact ⟨hHeld.1.keeps kk (by simp),hHeld.2.1.keeps kk (by simp),hHeld.2.2.1.keeps kk (by simp),hHeld.2.2.2.then kk⟩)
 clear hK Kont
 refine callL (i := 12) rfl (by kernel_rfl) (fun Kont hK => ?_)
 go_simp
 go_at_call 78;refine (full1_at _ (w.heap.size + 3) _ _ _ _ (by have := hHeld.2.2.1.lt;omega)).mono ?_;rintro e w12 ⟨⟨a12,b12,c12,rfl,tab12⟩,kk⟩;have kk12 := Lib.hid kk;have T12 := Lib.hid tab12;clear tab12
 go_wp2_with fail
 refine hK.out _ _ ?_ (fun hHeld => ?_)
 ·(exact ⟨hHeld.1.keeps kk (by simp),hHeld.2.1.keeps kk (by simp),hHeld.2.2.1.keeps kk (by simp),hHeld.2.2.2.then kk⟩)
 clear hK Kont
 refine callL (i := 17) rfl (by kernel_rfl) (fun Kont hK => ?_)
 go_simp
 go_at_call 78;refine (full1_at _ (w.heap.size + 3) _ _ _ _ (by have := hHeld.2.2.1.lt;omega)).mono ?_;rintro e w17 ⟨⟨a17,b17,c17,rfl,tab17⟩,kk⟩;have kk17 := Lib.hid kk;have T17 := Lib.hid tab17;clear tab17
 go_wp2_with fail
 refine hK.out _ _ ?_ (fun hHeld => ?_)
 ·(exact ⟨hHeld.1.keeps kk (by simp),hHeld.2.1.keeps kk (by simp),hHeld.2.2.1.keeps kk (by simp),hHeld.2.2.2.then kk⟩)
 clear hK Kont
 refine callL (i := 21) rfl (by kernel_rfl) (fun Kont hK => ?_)
 go_simp
 refine hK.out _ _ ?_ (fun hHeld => ?_)
 ·(exact ⟨hHeld.1.alloc _,hHeld.2.1.alloc _,hHeld.2.2.1.alloc _,hHeld.2.2.2.alloc _⟩)
 clear hK Kont
 refine takeM 22 rfl (by intro w9 hSw;obtain ⟨hS1,hS2,hS3,-⟩ := hSw;obtain ⟨q0,-⟩ := hS1.one;obtain ⟨q3,-⟩ := hS3.one;clear hS1 hS2 hS3;go_simp;(try with_reducible rfl)) ?_
 try simp only [Act.put,stA,stZ,stS]
 refine wpAnyH_done (by kernel_rfl) ?_ _
 go_wp2_with fail
 refine wp_loop_rounds 10 ?_
 rw [rounds_succ]
 go_wp2_with fail
 have l17 := hHeld.2.2.1.lt
 have D0 := Lib.hid (show DSt _ p v B k w.heap.size (w.heap.size + 1) (w.heap.size + 1 + 1) (w.heap.size + 3) ⟨0,nilV,nilV,nilV,nilV,nilV,[],[],[],[],[],0,0,0,0,0,0⟩ from
  ⟨HC.out _ hHeld.2.2.2,hHeld.1,hHeld.2.1,hHeld.2.2.1,RdI.nil,RdI.nil,RdI.nil,RdI.nil,RdI.nil,Fresh.nil,Fresh.nil,Fresh.nil,Fresh.nil,Fresh.nil,⟨by omega,by omega,by omega,by omega,by omega⟩,⟨by omega,by omega,by omega,by omega,by omega⟩,fun ad n c e h0 => by have := HV.out ad n c e h0;omega⟩)
 have kW := Lib.hid hHeld.2.2.2
 have l18 := hHeld.2.2.1.lt
 simp only [World.size_alloc] at l18
 refine (f2_yes p k _ _ _ _ v B _ _ D0.out HE.out).mono ?_
 rintro e w30 ⟨rfl,D30,k30⟩
 have D30 := Lib.hid D30
 have K30 := Lib.hid k30
 clear k30
 have cF1 : w30.cell? ⟨w17.heap.size,1,none⟩ = some (.func (.func 85) #[] #[.pointer (some ⟨(w.heap.size + 1),0,none⟩)]) :=
  (K30.out.cell (by simp) (by simp;omega)).trans ((Blk.new w17 _ _).cell 1)
 go_wp2_with fail
 rw [rounds_succ]
 go_wp2_with fail
 clear cF1
 refine (f3_yes p _ _ _ _ _ v B _ _ D30.out HZ.out).mono ?_
 rintro e w31 ⟨rfl,hw31⟩
 rw [hw31]
 clear hw31
 have cF2 : w30.cell? ⟨w17.heap.size,2,none⟩ = some (.func (.func 86) #[] #[.pointer (some ⟨w.heap.size,0,none⟩),.pointer (some ⟨(w.heap.size + 1 + 1),0,none⟩)]) :=
  (K30.out.cell (by simp) (by simp;omega)).trans ((Blk.new w17 _ _).cell 2)
 go_wp2_with fail
 rw [rounds_succ]
 go_wp2_with fail
 clear cF2
 rcases hg4 : getW B (bytesK B k 4) with n | ⟨T,k4⟩
 ·have hR := HR.out
  rw [hg4] at hR
  refine (f4_no p _ _ _ _ _ v B _ _ D30.out hg4).mono ?_
  rintro e w32 ⟨hn,rfl,k32⟩
  rw [← hR]
  exact ⟨rfl,finK kW.out (K30.out.trans (k32.mono (by simp)) (fun j hj _ => hj)) (by omega),hn,rfl⟩
 have HR4 := Lib.hid HR.out
 rw [hg4] at HR4
 dsimp only at HR4
 unfold getD2 at HR4
 refine (f4_yes p _ _ _ _ _ v B _ _ D30.out hg4).mono ?_
 rintro e w32 ⟨rfl,⟨r4,D32⟩,k32⟩
 have D32 := Lib.hid D32
 have K32 := Lib.hid (K30.out.trans k32 (fun j hj _ => hj))
 clear k32 hg4
 have TA7 := Lib.hid ((T7.out.keeps kk12.out (by simp)).keeps kk17.out (by simp))
 have TA12 := Lib.hid (T12.out.keeps kk17.out (by simp))
 have TA17 := T17
 have cF3 : w32.cell? ⟨w17.heap.size,3,none⟩ = some (.func (.func 79) #[] #[.pointer (some ⟨w.heap.size,0,none⟩),.pointer (some ⟨b7,0,none⟩),.pointer (some ⟨c7,0,none⟩),.pointer (some ⟨a7,0,none⟩)]) :=
  (K32.out.cell (by simp) (by simp;omega)).trans ((Blk.new w17 _ _).cell 3)
 go_wp2_with fail
 rw [rounds_succ]
 go_wp2_with fail
 clear cF3
 obtain ⟨e0,e1,e2,l0,l1,l2⟩ : Tab w32 (w.heap.size + 3) a7 b7 c7 ⟨w.heap.size + 1,4,none⟩ ((28 : Nat) : Int) 8 := (TA7.out.keeps ((Keeps.refl w17 []).alloc _) (by simp)).keeps K32.out (by simp;omega)
 rcases hg5 : descP ((B.drop (k4)).take 1024) 28 8 with n | ⟨G2,L2,m2⟩
 ·have hR := HR4.out
  rw [hg5] at hR
  refine (ft2_no p _ _ _ _ _ _ _ _ 28 8 v B _ _ D32.out e0 e1 e2 ⟨by omega,by omega,by omega⟩ (by decide) hg5).mono ?_
  rintro e w33 ⟨hn,rfl,kn⟩
  rw [← hR]
  exact ⟨rfl,finK kW.out (K32.out.trans (kn.mono (by simp)) (fun j hj _ => hj)) (by omega),hn,rfl⟩
 have HR5 := Lib.hid HR4.out
 rw [hg5] at HR5
 dsimp only at HR5
 refine (ft2_yes p _ _ _ _ _ _ _ _ 28 8 v B _ _ D32.out e0 e1 e2 ⟨by omega,by omega,by omega⟩ ⟨by omega,by omega,by omega⟩ (by decide) hg5).mono ?_
 rintro e w33 ⟨rfl,⟨r7,DX⟩,kn⟩
 have D33 := Lib.hid DX
 have K33 := Lib.hid (K32.out.trans kn (fun j hj _ => hj))
 clear kn DX hg5 e0 e1 e2 l0 l1 l2
 have cF4 : w33.cell? ⟨w17.heap.size,4,none⟩ = some (.func (.func 79) #[] #[.pointer (some ⟨w.heap.size,0,none⟩),.pointer (some ⟨b12,0,none⟩),.pointer (some ⟨c12,0,none⟩),.pointer (some ⟨a12,0,none⟩)]) :=
  (K33.out.cell (by simp) (by simp;omega)).trans ((Blk.new w17 _ _).cell 4)
 go_wp2_with fail
 rw [rounds_succ]
 go_wp2_with fail
 clear cF4
 obtain ⟨e0,e1,e2,l0,l1,l2⟩ : Tab w33 (w.heap.size + 3) a12 b12 c12 ⟨w.heap.size + 1,6,none⟩ ((44 : Nat) : Int) 9 := (TA12.out.keeps ((Keeps.refl w17 []).alloc _) (by simp)).keeps K33.out (by simp;omega)
 rcases hg5 : descP ((B.drop (k4 + m2)).take 1024) 44 9 with n | ⟨G3,L3,m3⟩
 ·have hR := HR5.out
  rw [hg5] at hR
  refine (ft3_no p _ _ _ _ _ _ _ _ 44 9 v B _ _ D33.out e0 e1 e2 ⟨by omega,by omega,by omega⟩ (by decide) hg5).mono ?_
  rintro e w34 ⟨hn,rfl,kn⟩
  rw [← hR]
  exact ⟨rfl,finK kW.out (K33.out.trans (kn.mono (by simp)) (fun j hj _ => hj)) (by omega),hn,rfl⟩
 have HR6 := Lib.hid HR5.out
 rw [hg5] at HR6
 dsimp only at HR6
 refine (ft3_yes p _ _ _ _ _ _ _ _ 44 9 v B _ _ D33.out e0 e1 e2 ⟨by omega,by omega,by omega⟩ ⟨by omega,by omega,by omega⟩ (by decide) hg5).mono ?_
 rintro e w34 ⟨rfl,⟨r12,DX⟩,kn⟩
 have D34 := Lib.hid DX
 have K34 := Lib.hid (K33.out.trans kn (fun j hj _ => hj))
 clear kn DX hg5 e0 e1 e2 l0 l1 l2
 have cF5 : w34.cell? ⟨w17.heap.size,5,none⟩ = some (.func (.func 79) #[] #[.pointer (some ⟨w.heap.size,0,none⟩),.pointer (some ⟨b17,0,none⟩),.pointer (some ⟨c17,0,none⟩),.pointer (some ⟨a17,0,none⟩)]) :=
  (K34.out.cell (by simp) (by simp;omega)).trans ((Blk.new w17 _ _).cell 5)
 go_wp2_with fail
 rw [rounds_succ]
 go_wp2_with fail
 clear cF5
 obtain ⟨e0,e1,e2,l0,l1,l2⟩ : Tab w34 (w.heap.size + 3) a17 b17 c17 ⟨w.heap.size + 1,2,none⟩ ((44 : Nat) : Int) 9 := (TA17.out.keeps ((Keeps.refl w17 []).alloc _) (by simp)).keeps K34.out (by simp;omega)
 rcases hg5 : descP ((B.drop (k4 + m2 + m3)).take 1024) 44 9 with n | ⟨G1,L1,m1⟩
 ·have hR := HR6.out
  rw [hg5] at hR
  refine (ft1_no p _ _ _ _ _ _ _ _ 44 9 v B _ _ D34.out e0 e1 e2 ⟨by omega,by omega,by omega⟩ (by decide) hg5).mono ?_
  rintro e w35 ⟨hn,rfl,kn⟩
  rw [← hR]
  exact ⟨rfl,finK kW.out (K34.out.trans (kn.mono (by simp)) (fun j hj _ => hj)) (by omega),hn,rfl⟩
 have HR7 := Lib.hid HR6.out
 rw [hg5] at HR7
 dsimp only at HR7
 refine (ft1_yes p _ _ _ _ _ _ _ _ 44 9 v B _ _ D34.out e0 e1 e2 ⟨by omega,by omega,by omega⟩ ⟨by omega,by omega,by omega⟩ (by decide) hg5).mono ?_
 rintro e w35 ⟨rfl,⟨r17,DX⟩,kn⟩
 have D35 := Lib.hid DX
 have K35 := Lib.hid (K34.out.trans kn (fun j hj _ => hj))
 clear kn DX hg5 e0 e1 e2 l0 l1 l2
 have cF6 : w35.cell? ⟨w17.heap.size,6,none⟩ = some (.func (.func 89) #[] #[.pointer (some ⟨w.heap.size,0,none⟩),.pointer (some ⟨(w.heap.size + 1 + 1),0,none⟩)]) :=
  (K35.out.cell (by simp) (by simp;omega)).trans ((Blk.new w17 _ _).cell 6)
 go_wp2_with fail
 rw [rounds_succ]
 go_wp2_with fail
 clear cF6
 unfold getD3 at HR7
 have H5 := Lib.hid (f5_any p _ _ _ _ _ v B _ _ D35.out)
 rcases hg6 : contR B 3 (k4 + m2 + m3 + m1) [] with n | ⟨acc,k6⟩
 ·have hR := HR7.out
  rw [hg6] at hR H5
  refine H5.out.mono ?_
  rintro e w36 ⟨kn,hn,rfl⟩
  rw [← hR]
  exact ⟨rfl,finK kW.out (K35.out.trans kn (fun j hj _ => hj)) (by omega),hn,rfl⟩
 have HR8 := Lib.hid HR7.out
 rw [hg6] at HR8 H5
 dsimp only at HR8
 refine H5.out.mono ?_
 rintro e w36 ⟨kn,rfl,hacc,DX⟩
 obtain ⟨x0,x1,x2,rfl⟩ : ∃ x0 x1 x2,acc = [x0,x1,x2] := by
  match acc,hacc with
  | [a,b,c],_ => exact ⟨a,b,c,rfl⟩
 have D36 := Lib.hid DX
 have K36 := Lib.hid (K35.out.trans kn (fun j hj _ => hj))
 clear kn DX hg6 hacc H5
 have cF7 : w36.cell? ⟨w17.heap.size,7,none⟩ = some (.func (.func 92) #[] #[.pointer (some ⟨w.heap.size,0,none⟩),.pointer (some ⟨(w.heap.size + 1 + 1),0,none⟩),.pointer (some ⟨(w.heap.size + 1),0,none⟩)]) :=
  (K36.out.cell (by simp) (by simp;omega)).trans ((Blk.new w17 _ _).cell 7)
 go_wp2_with fail
 rw [rounds_succ]
 go_wp2_with fail
 clear cF7
 have H6 := Lib.hid (fun (R6 : Except Int (List Int × Nat)) (h6 : conR B k6 (x0 : Int) (x1 : Int) (x2 : Int) = R6) => f6_at (a := (x0 : Int)) (b := (x1 : Int)) (c := (x2 : Int)) p _ _ _ _ _ v B _ _ D36.out rfl rfl rfl ⟨by omega,by omega,by omega⟩ h6)
 have HRX := Lib.hid (show (match conR B k6 (x0 : Int) (x1 : Int) (x2 : Int) with
   | .error n => .error n
   | .ok (X,k2) => if k2 = B.length then .ok _ else .error 4) = R from HR8.out)
 rcases hg7 : conR B k6 (x0 : Int) (x1 : Int) (x2 : Int) with n | ⟨X,k7⟩
 ·have hR := HRX.out
  rw [hg7] at hR
  refine (H6.out _ hg7).mono ?_
  rintro e w37 ⟨kn,hn,rfl⟩
  rw [← hR]
  exact ⟨rfl,finK kW.out (K36.out.trans kn (fun j hj _ => hj)) (by omega),hn,rfl⟩
 rw [hg7] at HRX
 dsimp only at HRX
 refine (H6.out _ hg7).mono ?_
 rintro e w37 ⟨kn,rfl,rX,DX⟩
 have D37 := Lib.hid DX
 have K37 := Lib.hid (K36.out.trans kn (fun j hj _ => hj))
 clear kn DX hg7 H6
 have cF8 : w37.cell? ⟨w17.heap.size,8,none⟩ = some (.func (.func 97) #[] #[.pointer (some ⟨w.heap.size,0,none⟩)]) :=
  (K37.out.cell (by simp) (by simp;omega)).trans ((Blk.new w17 _ _).cell 8)
 go_wp2_with fail
 rw [rounds_succ]
 go_wp2_with fail
 clear cF8
 by_cases hle : k7 = B.length
 ·rw [if_pos hle] at HRX
  refine (f7_yes p _ _ _ _ _ v B _ _ D37.out hle).mono ?_
  rintro e w38 ⟨rfl,kn⟩
  clear hle
  have DF := Lib.hid (D37.out.keeps0 kn)
  obtain ⟨A4,n4,c4,rfl,-,-⟩ := DF.out.rt.form
  obtain ⟨A17,n17,c17',rfl,-,-⟩ := DF.out.r1.form
  obtain ⟨A7,n7,c7',rfl,-,-⟩ := DF.out.r2.form
  obtain ⟨A12,n12,c12',rfl,-,-⟩ := DF.out.r3.form
  obtain ⟨AX,nX,cX,rfl,-,-⟩ := DF.out.rx.form
  obtain ⟨q0,q1,q2,q3,q4,q5,q6,q7,q8,q9,qa,qb⟩ := dict_cells DF.out.kd
  dsimp only [repD] at q0 q1 q2 q3 q4 q5 q6 q7 q8 q9 qa qb
  go_wp2_with fail
  rw [rounds_succ]
  go_wp2_with (refine wpList_store_blk rfl 32 _ _ rfl (w.heap.size + 1) (dictC (wordL (bytesX B k 4)) (.slice A4 n4 c4) (G1 : Int) (.slice A17 n17 c17') (G2 : Int) (.slice A7 n7 c7') (G3 : Int) (.slice A12 n12 c12') (x0 : Int) (x1 : Int) (x2 : Int) (.slice AX nX cX)) rfl rfl _ _ DF.out.kd dict_size rfl (by simp [Value.oneCell']) ?_;intro W39 b39 k39)
  rw [← HRX.out]
  have hlt : w.heap.size + 1 < w.heap.size + 3 := by omega
  refine bodyPost_ret (v := .agg (dictC (wordL (bytesX B k 4)) (.slice A4 n4 c4) (G1 : Int) (.slice A17 n17 c17') (G2 : Int) (.slice A7 n7 c7') (G3 : Int) (.slice A12 n12 c12') (x0 : Int) (x1 : Int) (x2 : Int) (.slice AX nX cX))) (res_cell rfl rfl (load_dict b39 rfl)) rfl ⟨finK kW.out ((K37.out.trans (kn.mono (by simp)) (fun j hj _ => hj)).trans (k39.mono (S' := [p,w.heap.size + 1]) (by simp)) (fun j hj _ => hj)) (by omega),_,_,_,_,_,rfl,DF.out.rt.past DF.out.ft k39 hlt,DF.out.r1.past DF.out.f1 k39 hlt,DF.out.r2.past DF.out.f2 k39 hlt,DF.out.r3.past DF.out.f3 k39 hlt,DF.out.rx.past DF.out.fx k39 hlt,DF.out.ft.mono (by omega),DF.out.f1.mono (by omega),DF.out.f2.mono (by omega),DF.out.f3.mono (by omega),DF.out.fx.mono (by omega)⟩
 ·rw [if_neg hle] at HRX
  refine (f7_no p _ _ _ _ _ v B _ _ D37.out hle).mono ?_
  rintro e w38 ⟨rfl,kn⟩
  rw [← HRX.out]
  exact ⟨rfl,finK kW.out (K37.out.trans (kn.mono (by simp)) (fun j hj _ => hj)) (by omega),by decide,rfl⟩


end Go.Proofs.YtcmagccfagijlaaGreat
