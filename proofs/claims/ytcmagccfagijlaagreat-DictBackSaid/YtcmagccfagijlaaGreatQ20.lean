/-
  Plain: what a full dictionary says at an offset, in the whole bytes or in their tail. No program in sight.
  Walks over package dict: Get whole.
  Walks over the references that read a full dictionary: GetWord, repeats; Bytes at any number.
  Walks over the reference of dictionaries: repeats. (Printed by mkGg.py.)
  Plain: positions that a decoder leaves lie within the bytes. Walk: reference 16's Get, with the freshness of its tree. (Printed by mkGh.py.)
  Plain: further bytes behind a full dictionary change nothing that is read, and are refused at its end. No program in sight.
  A description is read back by the plain law of the decoders, whatever follows. (No walk is done here.)
  A varint is read back from its bytes, whatever stands around it. (No walk is done here.)
  Counts turned into norms, in plain words; and that the norms are a valid table. (No program in sight.)
  Walks over package norm: all, the closures of Normalize, furthest. (Printed by mkZi.py.)
  A flow written, in plain words: the places of a symbol, the state ahead of a state, the bits of a row of symbols; and that it is read back. (No walk is done here.)
-/
import Derived.Test.YtcmagccfagijlaaGreatQ19
import Derived.Test.YtcmagccfagijlaaGreatQ6
import Derived.Test.YtcmagccfagijlaaGreatQ14
import Derived.Test.YtcmagccfagijlaaGreatQ16
import Derived.Test.YtcmagccfagijlaaGreatQ3
import Derived.Test.YtcmagccfagijlaaGreatQ12
import Derived.Test.YtcmagccfagijlaaGreatQ2
import Derived.Test.YtcmagccfagijlaaGreatQ11
import Derived.Test.YtcmagccfagijlaaGreatQ13
namespace Go.Proofs.YtcmagccfagijlaaGreat
set_option linter.unusedVariables false
set_option linter.unusedSimpArgs false
set_option linter.unusedSectionVars false
set_option maxRecDepth 100000
section
open Go.RowKit

section
variable {B : List Int} {s : Nat}
theorem sh_bytesE (hs : s ≤ B.length) (k : Nat) (m : Int) : bytesE B (k + s) m = bytesE (B.drop s) k m := by
 unfold bytesE
 rw [show (B.length : Int) - ((k + s : Nat) : Int) = ((B.drop s).length : Int) - (k : Int) by simp;omega]
theorem sh_drop (k : Nat) : B.drop (k + s) = (B.drop s).drop k := by rw [List.drop_drop,Nat.add_comm]
theorem sh_bytesX (hs : s ≤ B.length) (k : Nat) (m : Int) : bytesX B (k + s) m = bytesX (B.drop s) k m := by
 unfold bytesX;rw [sh_bytesE hs,sh_drop]
theorem sh_bytesK (hs : s ≤ B.length) (k : Nat) (m : Int) : bytesK B (k + s) m = bytesK (B.drop s) k m + s := by
 unfold bytesK;rw [sh_bytesE hs];split <;> omega
theorem sh_byteX (k : Nat) : byteX B (k + s) = byteX (B.drop s) k := by
 unfold byteX;rw [List.getElem?_drop,Nat.add_comm]
def shV (s : Nat) (r : Nat × Int × Nat) : Nat × Int × Nat := (r.1,r.2.1,r.2.2 + s)
theorem sh_varR' : ∀ (f x c k : Nat),varR B f x c (k + s) = shV s (varR (B.drop s) f x c k) := by
 intro f
 induction f with
 | zero => intro x c k;rfl
 | succ f ih =>
  intro x c k
  unfold varR
  rw [sh_byteX,List.length_drop,show k + s + 1 = k + 1 + s by omega]
  by_cases h : k + s < B.length
  ·rw [if_pos h,if_pos (show k < B.length - s by omega)]
   split
   ·exact ih _ _ _
   split
   ·rfl
   split
   ·rfl
   ·rfl
  ·rw [if_neg h,if_neg (show ¬ k < B.length - s by omega)]
   rfl
theorem sh_varR (f x c k : Nat) : varR B f x c (k + s) = ((varR (B.drop s) f x c k).1,(varR (B.drop s) f x c k).2.1,(varR (B.drop s) f x c k).2.2 + s) := sh_varR' f x c k
theorem sh_varE (k : Nat) : varE B (k + s) = varE (B.drop s) k := by unfold varE;rw [sh_varR]
theorem sh_varX (k : Nat) : varX B (k + s) = varX (B.drop s) k := by unfold varX;rw [sh_varR]
theorem sh_varK (k : Nat) : varK B (k + s) = varK (B.drop s) k + s := by unfold varK;rw [sh_varE,sh_varR];split <;> rfl
theorem sh_numE (k M : Nat) : numE B (k + s) M = numE (B.drop s) k M := by unfold numE;rw [sh_varE,sh_varX]
theorem sh_numX (k M : Nat) : numX B (k + s) M = numX (B.drop s) k M := by unfold numX;rw [sh_numE,sh_varX]
theorem sh_numK (k M : Nat) : numK B (k + s) M = numK (B.drop s) k M + s := by unfold numK;rw [sh_numE,sh_varK];split <;> rfl
theorem sh_halvE (hs : s ≤ B.length) (k m : Nat) : halvE B (k + s) m = halvE (B.drop s) k m := by unfold halvE;rw [sh_bytesE hs,sh_bytesX hs]
theorem sh_halvX (hs : s ≤ B.length) (k m : Nat) : halvX B (k + s) m = halvX (B.drop s) k m := by unfold halvX;rw [sh_bytesX hs]
theorem sh_codedR (hs : s ≤ B.length) (k m : Nat) : codedR B (k + s) m = ((codedR (B.drop s) k m).1,(codedR (B.drop s) k m).2 + s) := by
 unfold codedR
 rw [sh_drop]
 rcases hd : descP (((B.drop s).drop k).take 1024) 12 6 with e | ⟨g,norm,nb⟩
 ·rfl
 ·simp only
  rw [show k + s + nb = (k + nb) + s by omega,sh_numE,sh_numK,sh_numX,sh_bytesE hs,sh_bytesK hs,sh_bytesX hs]
  split
  ·rfl
  ·split
   ·rfl
   ·rfl
def upR {α : Type} (s : Nat) : Except Int (α × Nat) → Except Int (α × Nat)
 | .ok (x,k) => .ok (x,k + s)
 | .error n => .error n
theorem sh_finW (L : List Int) (K : Nat) : finW L (K + s) = upR s (finW L K) := by unfold finW;split <;> rfl
theorem sh_getW (hs : s ≤ B.length) (k : Nat) : getW B (k + s) = upR s (getW (B.drop s) k) := by
 unfold getW
 rw [sh_numE,sh_numX,sh_numK,sh_byteX,List.length_drop]
 split
 ·rfl
 split
 ·rfl
 by_cases h : B.length ≤ numK (B.drop s) k 255 + s
 ·rw [if_pos h,if_pos (show B.length - s ≤ numK (B.drop s) k 255 by omega)];rfl
 rw [if_neg h,if_neg (show ¬ B.length - s ≤ numK (B.drop s) k 255 by omega)]
 rw [show numK (B.drop s) k 255 + s + 1 = (numK (B.drop s) k 255 + 1) + s by omega,sh_halvE hs,sh_halvX hs,sh_bytesK hs,sh_codedR hs]
 split
 ·split
  ·rfl
  ·exact sh_finW _ _
 split
 ·simp only
  split
  ·rfl
  ·exact sh_finW _ _
 ·rfl
theorem sh_repR (k : Nat) : repR B (k + s) = upR s (repR (B.drop s) k) := by
 unfold repR
 rw [sh_varE,sh_varX,sh_varK]
 split
 ·rfl
 split
 ·rfl
 ·rfl
theorem sh_contR : ∀ (f k : Nat) (acc : List Nat),contR B f (k + s) acc = upR s (contR (B.drop s) f k acc) := by
 intro f
 induction f with
 | zero => intro k acc;rfl
 | succ f ih =>
  intro k acc
  unfold contR
  rw [sh_repR]
  rcases repR (B.drop s) k with n | ⟨x,k'⟩
  ·rfl
  ·exact ih k' _
theorem sh_conR (hs : s ≤ B.length) (k : Nat) (a b c : Int) : conR B (k + s) a b c = upR s (conR (B.drop s) k a b c) := by
 unfold conR
 rw [sh_numE,sh_numX,sh_numK,sh_bytesE hs,sh_bytesX hs,sh_bytesK hs]
 split
 ·rfl
 split
 ·rfl
 split
 ·rfl
 ·rfl
theorem sh_getD3 (hs : s ≤ B.length) (k : Nat) (d : DD) : getD3 B (k + s) d = getD3 (B.drop s) k d := by
 unfold getD3
 rw [sh_contR]
 rcases contR (B.drop s) 3 k [] with n | ⟨acc,k1⟩
 ·rfl
 ·simp only [upR]
  rw [sh_conR hs]
  rcases conR (B.drop s) k1 _ _ _ with n | ⟨X,k2⟩
  ·rfl
  ·simp only [upR,List.length_drop]
   by_cases h : k2 + s = B.length
   ·rw [if_pos h,if_pos (by omega)]
   ·rw [if_neg h,if_neg (by omega)]
theorem sh_getD2 (hs : s ≤ B.length) (k : Nat) (d : DD) : getD2 B (k + s) d = getD2 (B.drop s) k d := by
 unfold getD2
 rw [sh_drop]
 rcases descP (((B.drop s).drop k).take 1024) 28 8 with n | ⟨g2,L2,m2⟩
 ·rfl
 simp only
 rw [show k + s + m2 = k + m2 + s by omega,sh_drop]
 rcases descP (((B.drop s).drop (k + m2)).take 1024) 44 9 with n | ⟨g3,L3,m3⟩
 ·rfl
 simp only
 rw [show k + m2 + s + m3 = k + m2 + m3 + s by omega,sh_drop]
 rcases descP (((B.drop s).drop (k + m2 + m3)).take 1024) 44 9 with n | ⟨g1,L1,m1⟩
 ·rfl
 simp only
 rw [show k + m2 + m3 + s + m1 = k + m2 + m3 + m1 + s by omega,sh_getD3 hs]
theorem sh_getD (hs : s ≤ B.length) (k : Nat) : getD B (k + s) = getD (B.drop s) k := by
 unfold getD
 rw [sh_bytesE hs,sh_bytesX hs,sh_bytesK hs,sh_getW hs]
 split
 ·rfl
 split
 ·rfl
 rcases getW (B.drop s) (bytesK (B.drop s) k 4) with n | ⟨T,k1⟩
 ·rfl
 ·simp only [upR]
  exact sh_getD2 hs _ _
end

def getA (l : List Int) : Except Int DD := if markB l = true then getD l 4 else .ok ⟨0,[],0,[],0,[],0,[],1,4,8,l⟩
end

section
open Go.RowKit

theorem dget_idle (p q : Addr) (w : World) :
  CallsD Tryz.prog 47 #[.pointer (some p),.pointer (some q)] .returning w fun e u' w' => e = .returned (.tuple #[]) ∧ u' = .returning ∧ w' = w := by
 refine callsD_of_wpS Tryz.func47 rfl fun c₀ cs hu => ?_
 simp only [Tryz.ntmps47,List.size_toArray,List.length_cons,List.length_nil,Nat.reduceAdd,Nat.reduceSub,Array.replicate_succ,Array.replicate_zero,List.push_toArray,List.append_toArray,List.nil_append,List.cons_append]
 apply wpS_seq
 apply wpS_region
 simp [wpOpsS,go_sem,recoverD,hu,Exit.thenS]
 refine wpS_of_wp ?_
 have HU := Lib.hid hu
 clear hu
 go_wp2
 refine ⟨rfl,.returning,?_,.tuple #[],by simp [results,Tryz.results47],rfl,rfl,rfl⟩
 have hu := HU.out
 cases c₀
 simp_all

def GotA (w : World) (R : Except Int DD) (e : Ending) (w' : World) : Prop :=
 Keeps w w' [] ∧ match R with
  | .ok D => ∃ t n1 n2 n3 x,e = .returned (.tuple #[.agg (dictC D.id t D.g1 n1 D.g2 n2 D.g3 n3 D.a D.b D.c x),.int .i64 0]) ∧ (RdI .i64 w' t D.T ∧ RdI .i64 w' n1 D.L1 ∧ RdI .i64 w' n2 D.L2 ∧ RdI .i64 w' n3 D.L3 ∧ RdI .u8 w' x D.X) ∧ Fresh w.heap.size t ∧ Fresh w.heap.size n1 ∧ Fresh w.heap.size n2 ∧ Fresh w.heap.size n3 ∧ Fresh w.heap.size x
  | .error n => n ≠ 0 ∧ e = .returned (.tuple #[.agg zeroC,.int .i64 n])

set_option maxHeartbeats 4000000 in
theorem get_full (v : Value) (l : List Int) (w : World) (hv : RdI .u8 w v l) (hl : ∀ x ∈ l,0 ≤ x ∧ x ≤ 255) (hn : l.length ≤ 100000) (hm : markB l = true) :
  Calls Tryz.prog 24 #[v] w (GotA w (getD l 4)) := by
 have hmf : ∀ (fn : Fn) (first cap : Array Value) (w : World),(Instr.makeFunc fn first cap).run Tryz.prog w = .ok (.func fn first cap) w := fun _ _ _ _ => rfl
 have HM := Lib.hid (fun w1 (k : Keeps w w1 []) => marked_any v l w1 (hv.keeps k) hl)
 rw [hm] at HM
 have h4 : 4 ≤ l.length := by
  have := congrArg List.length (of_decide_eq_true hm)
  simp at this;omega
 obtain ⟨r,hr0,rr⟩ := slice_tail hv (i := 4) h4
 have hr : ∀ w,(Instr.slice 22 v (some (.int .i64 4)) none none).run Tryz.prog w = .ok r w := hr0
 have HNW := Lib.hid (fun w1 (k : Keeps w w1 []) => new_any r (l.drop 4) w1 (rr.keeps k) (by simp;omega) (fun x hx => hl x (List.mem_of_mem_drop hx)))
 obtain ⟨R,hR⟩ : ∃ R,getD l 4 = R := ⟨_,rfl⟩
 have HF : Hid (∀ W p v',Cur W p v' (l.drop 4) 0 → Calls Tryz.prog 48 #[.pointer (some ⟨p,0,none⟩)] W (GotD W p R)) := Lib.hid (fun W p v' hc => by
  have := full_any p 0 v' (l.drop 4) W hc
  rw [← sh_getD h4,Nat.zero_add,hR] at this
  exact this)
 rw [hR]
 obtain ⟨A0,m,c,rfl,-,-⟩ := hv.form
 have k0 : Keeps w ((w.alloc (.cells zeroC 32)).alloc (.cells #[.int .i64 0] 33)) [] := ((Keeps.refl w []).alloc _).alloc _
 have bd := (Blk.new w zeroC 32).alloc (.cells #[.int .i64 0] 33)
 have be := Blk.new (w.alloc (.cells zeroC 32)) #[.int .i64 0] 33
 simp only [World.size_alloc] at be
 clear hv hl hm hn rr hr0 h4 hR
 rcases R with n | D
 ·unfold GotD at HF
  simp only at HF
  go_enter_defers Tryz.func24,Tryz.ntmps24
  go_wp2_with (first
   | (go_at_call 31;(refine (HM.out _ k0).mono ?_;rintro e w1 ⟨rfl,k1⟩;have bd1 := bd.keeps k1 (by simp);have be1 := be.keeps k1 (by simp);have kw1 := k0.then k1))
   | (go_at_call 49;(refine (HNW.out _ kw1).mono ?_;rintro e w2 ⟨p,v2,rfl,hp,cur2,k2⟩;have bd2 := bd1.keeps k2 (by simp);have be2 := be1.keeps k2 (by simp);have kw2 := kw1.then k2))
   | (go_at_call 48;(refine (HF.out _ _ _ cur2).mono ?_;rintro e w3 ⟨k3,hn0,rfl⟩)))
  have l1 := be1.lt
  have hs := kw1.size
  have bd3 := bd2.keeps k3 (by simp;omega)
  have be3 := be2.keeps k3 (by simp;omega)
  have kw3 := kw2.trans k3 (fun j hj hlt => by simp at hj;omega)
  refine leaves_cons (f := 47) (args := #[.pointer (some ⟨w.heap.size,0,none⟩),.pointer (some ⟨w.heap.size + 1,0,none⟩)]) (by simp) (by simp [go_sem]) ?_
  refine (dget_back _ _ n _ [] _ bd3 be3 (by omega)).mono ?_
  rintro e u' w4 ⟨rfl,rfl,bd4,be4,k4⟩
  exact ⟨.tuple #[.agg zeroC,.int .i64 n],res_cell_cell rfl rfl rfl (load_dict bd4 rfl) (load_errno be4),kw3.trans k4 (fun j hj hlt => by simp at hj;omega),hn0,rfl⟩
 ·unfold GotD at HF
  simp only at HF
  obtain ⟨id,T,g1,L1,g2,L2,g3,L3,a,b,c',X⟩ := D
  simp only at HF
  go_enter_defers Tryz.func24,Tryz.ntmps24
  go_wp2_with (first
   | (go_at_call 31;(refine (HM.out _ k0).mono ?_;rintro e w1 ⟨rfl,k1⟩;have bd1 := bd.keeps k1 (by simp);have be1 := be.keeps k1 (by simp);have kw1 := k0.then k1))
   | (go_at_call 49;(refine (HNW.out _ kw1).mono ?_;rintro e w2 ⟨p,v2,rfl,hp,cur2,k2⟩;have bd2 := bd1.keeps k2 (by simp);have be2 := be1.keeps k2 (by simp);have kw2 := kw1.then k2;have l1 := be1.lt;have hs := kw1.size))
   | (go_at_call 48;(refine (HF.out _ _ _ cur2).mono ?_;rintro e w3 ⟨k3,t,n1,n2,n3,x,rfl,rt,r1,r2,r3,rx,ft,f1,f2,f3,fx⟩;obtain ⟨ta,tm,tc,rfl,-,-⟩ := rt.form;obtain ⟨a1,m1,c1,rfl,-,-⟩ := r1.form;obtain ⟨a2,m2,c2,rfl,-,-⟩ := r2.form;obtain ⟨a3,m3,c3,rfl,-,-⟩ := r3.form;obtain ⟨xa,xm,xc,rfl,-,-⟩ := rx.form;have bd3 := bd2.keeps k3 (by simp;omega);have be3 := be2.keeps k3 (by simp;omega);have kw3 := kw2.trans k3 (fun j hj hlt => by simp at hj;omega);have RR := Lib.hid (And.intro rt (And.intro r1 (And.intro r2 (And.intro r3 rx))));have FF := Lib.hid (And.intro ft (And.intro f1 (And.intro f2 (And.intro f3 fx))));have hs2 := kw2.size;clear rt r1 r2 r3 rx ft f1 f2 f3 fx))
   | (refine wpList_store_blk rfl 32 _ _ rfl w.heap.size (dictC id (.slice ta tm tc) g1 (.slice a1 m1 c1) g2 (.slice a2 m2 c2) g3 (.slice a3 m3 c3) a b c' (.slice xa xm xc)) rfl rfl _ _ bd3 dict_size rfl (by simp [Value.oneCell']) ?_;intro W3 bd4 k4;have be4 := be3.keeps k4 (by simp);obtain ⟨e3,e4⟩ := be4.one))
  have kf : Keeps W3 (W3.setCell ⟨w.heap.size + 1,0,none⟩ (.int .i64 0)) [w.heap.size + 1] := (Keeps.refl _ _).setCell (.inr (by simp)) _
  have bd5 := bd4.keeps kf (by simp)
  have be5 := zone be4 (.int .i64 0)
  have hs1 : w.heap.size + 1 < w2.heap.size := be2.lt
  obtain ⟨ft,f1,f2,f3,fx⟩ := FF.out
  obtain ⟨rt,r1,r2,r3,rx⟩ := RR.out
  refine leaves_cons (f := 47) (args := #[.pointer (some ⟨w.heap.size,0,none⟩),.pointer (some ⟨w.heap.size + 1,0,none⟩)]) (by simp) (by simp [go_sem]) ?_
  refine (dget_idle _ _ _).mono ?_
  rintro e u' w5 ⟨rfl,rfl,rfl⟩
  have g0 : w.heap.size < w2.heap.size := by omega
  exact ⟨.tuple #[.agg (dictC id (.slice ta tm tc) g1 (.slice a1 m1 c1) g2 (.slice a2 m2 c2) g3 (.slice a3 m3 c3) a b c' (.slice xa xm xc)),.int .i64 0],res_cell_cell rfl rfl rfl (load_dict bd5 rfl) (load_errno be5),
   (kw3.trans k4 (fun j hj hlt => by simp at hj;omega)).trans kf (fun j hj hlt => by simp at hj;omega),_,_,_,_,_,rfl,
   ⟨(rt.past ft k4 g0).past ft kf hs1,(r1.past f1 k4 g0).past f1 kf hs1,(r2.past f2 k4 g0).past f2 kf hs1,(r3.past f3 k4 g0).past f3 kf hs1,(rx.past fx k4 g0).past fx kf hs1⟩,
   ft.mono hs2,f1.mono hs2,f2.mono hs2,f3.mono hs2,fx.mono hs2⟩

theorem get_all (v : Value) (l : List Int) (w : World) (hv : RdI .u8 w v l) (hl : ∀ x ∈ l,0 ≤ x ∧ x ≤ 255) (hn : l.length ≤ 100000) :
  Calls Tryz.prog 24 #[v] w (GotA w (getA l)) := by
 unfold getA
 by_cases hm : markB l = true
 ·rw [if_pos hm];exact get_full v l w hv hl hn hm
 ·rw [if_neg hm]
  refine (get_raw v l w hv hl (by omega) (by simpa using hm)).mono ?_
  rintro e w' ⟨x,rfl,rx,fx,kk⟩
  exact ⟨kk,_,_,_,_,_,rfl,⟨.nil,.nil,.nil,.nil,rx⟩,.nil,.nil,.nil,.nil,fx⟩
end

section
open Go.RowKit
end

section
open Go.RowKit

theorem contR_ok {B : List Int} {f k k' x : Nat} {acc : List Nat} (h : repR B k = .ok (x,k')) : contR B (f + 1) k acc = contR B f k' (acc ++ [x]) := by
 rw [contR,h]
end

section
open Go.RowKit
end

section
open Go.RowKit

theorem mx3_le {N a b c : Int} (h0 : 0 ≤ N) (ha : a ≤ N) (hb : b ≤ N) (hc : c ≤ N) : ¬ N < mxL [a,b,c] := by
 have := mxL_le (l := [a,b,c]) h0 (by simp;exact ⟨ha,hb,hc⟩)
 omega
section
variable {A Z : List Int}
end

section
variable {A Z : List Bool}
end

section
variable {A Z : List Int}
end
end

section
theorem valL_zeros : ∀ k,valL (List.replicate k false) = 0
 | 0 => rfl
 | k + 1 => by rw [List.replicate_succ,valL,valL_zeros k];rfl
theorem descP_descE {log symbols logMost : Nat} {norm Z : List Int} (h1 : 1 ≤ log) (h2 : log ≤ 9) (hm : log ≤ logMost) (hl : norm.length ≤ symbols) (hlow : ∀ n ∈ norm,-1 ≤ n) (hs : sumN norm = ((2 ^ log : Nat) : Int)) (hlast : norm.getLast? ≠ some 0) :
  descP (descE log norm ++ Z) symbols (logMost : Int) = .ok (log,norm,(descE log norm).length) := by
 obtain ⟨k,hk,hb,hlen,-⟩ := packB_bits (descL log norm)
 have e : rowBits (descE log norm ++ Z) = bitsN (log - 1) 4 ++ (normsE norm.length (2 ^ log) norm ++ (List.replicate k false ++ rowBits Z)) := by
  rw [rowBits_append,descE,hb,descL]
  simp only [List.append_assoc]
 unfold descP tabP
 rw [e,tk_bits (by omega)]
 simp only
 rw [if_neg (by omega),show log - 1 + 1 = log by omega,normsP_normsE _ _ _ _ _ _ _ (by omega) (Nat.le_refl _) hlow hs (by simpa using hl) (fun _ => hlast) (fun h => by cases h)]
 simp only [List.nil_append,tabOf]
 have hL2 : (List.replicate k false ++ rowBits Z).length = k + 8 * Z.length := by rw [List.length_append,List.length_replicate,rowBits_len]
 rw [hL2,show (k + 8 * Z.length) % 8 = k by omega,List.take_left' (by rw [List.length_replicate]),if_pos (valL_zeros k),List.length_append,show (k + 8 * Z.length) / 8 = Z.length by omega,Nat.add_sub_cancel]
end

section
theorem byteX_drop {B L : List Int} {k : Nat} {x : Int} (h : B.drop k = x :: L) : k < B.length ∧ byteX B k = x ∧ B.drop (k + 1) = L := by
 have hl : k < B.length := by
  have := congrArg List.length h
  rw [List.length_drop,List.length_cons] at this
  omega
 rw [List.drop_eq_getElem_cons hl] at h
 injection h with h1 h2
 exact ⟨hl,by unfold byteX;rw [List.getElem?_eq_getElem hl,h1];rfl,h2⟩
theorem varR_varI (B : List Int) : ∀ (f i a k n : Nat) (Z : List Int),n < 128 ^ f → (0 < i → 0 < n) → B.drop k = varI n ++ Z → a + n * 2 ^ (7 * i) ≤ 4611686018427387903 → varR B f i a k = if f = 0 then varR B 0 i a k else (a + n * 2 ^ (7 * i),0,k + (varI n).length)
 | 0,i,a,k,n,Z,_,_,_,_ => by rw [if_pos rfl]
 | f + 1,i,a,k,n,Z,hn,h0,hd,hm => by
  rw [if_neg (by omega),varR_succ]
  by_cases h128 : n < 128
  ·rw [varI_small h128] at hd ⊢
   obtain ⟨h1,h2,h3⟩ := byteX_drop hd
   rw [if_pos h1,h2,if_neg (by omega),if_neg (by rintro ⟨e,hi⟩;have := h0 hi;omega),Int.toNat_natCast,Nat.mod_eq_of_lt h128,if_neg (by omega)]
   rfl
  ·have hq : 0 < n / 128 := Nat.div_pos (by omega) (by decide)
   rw [varI_step (by omega)] at hd ⊢
   obtain ⟨h1,h2,h3⟩ := byteX_drop hd
   have hx : (byteX B k).toNat % 128 = n % 128 := by rw [h2];omega
   rw [if_pos h1,if_pos (by rw [h2];omega),hx]
   have e : a + n % 128 * 2 ^ (7 * i) + n / 128 * 2 ^ (7 * (i + 1)) = a + n * 2 ^ (7 * i) := by
    have h := Nat.div_add_mod n 128
    rw [show 7 * (i + 1) = 7 + 7 * i by omega,Nat.pow_add,show (2 : Nat) ^ 7 = 128 by decide,← Nat.mul_assoc,Nat.add_assoc,← Nat.add_mul]
    congr 2
    omega
   have hlt : n / 128 < 128 ^ f := by
    rw [Nat.pow_succ] at hn
    exact Nat.div_lt_of_lt_mul (by rw [Nat.mul_comm];exact hn)
   have hf : f ≠ 0 := by
    intro hf
    subst hf
    simp at hlt
    omega
   rw [varR_varI B f (i + 1) (a + n % 128 * 2 ^ (7 * i)) (k + 1) (n / 128) Z hlt (fun _ => hq) h3 (by rw [e];exact hm),if_neg hf,e,List.length_cons]
   congr 2
   omega
theorem var_read {B Z : List Int} {k n : Nat} (hn : n < 4611686018427387903) (hd : B.drop k = varI n ++ Z) : varX B k = n ∧ varE B k = 0 ∧ varK B k = k + (varI n).length := by
 have h := varR_varI B 9 0 0 k n Z (Nat.lt_of_lt_of_le hn (by decide)) (fun h => by omega) hd (by simp;omega)
 rw [if_neg (by decide)] at h
 have h' : varR B 9 0 0 k = (n,0,k + (varI n).length) := by simpa using h
 unfold varK varX varE
 rw [h']
 exact ⟨rfl,rfl,rfl⟩
theorem num_read {B Z : List Int} {k n M : Nat} (hn : n < 4611686018427387903) (hM : n ≤ M) (hd : B.drop k = varI n ++ Z) : numX B k M = n ∧ numE B k M = 0 ∧ numK B k M = k + (varI n).length := by
 obtain ⟨h1,h2,h3⟩ := var_read hn hd
 have hE : numE B k M = 0 := by unfold numE;rw [h1,h2,if_neg (by omega)]
 unfold numK numX
 rw [hE,if_pos rfl,if_pos rfl]
 exact ⟨h1,rfl,h3⟩
end

section
def furF (among : Nat → Bool) (of : Nat → Int) : Nat → Option Nat
 | 0 => none
 | i + 1 => match furF among of i with
  | none => if among i then some i else none
  | some b => if among i && decide (of b < of i) then some i else some b
theorem furF_none {among : Nat → Bool} {of : Nat → Int} : ∀ {n : Nat},furF among of n = none → ∀ i,i < n → among i = false
 | 0,_,i,hi => by omega
 | n + 1,h,i,hi => by
  unfold furF at h
  cases hf : furF among of n with
  | none =>
   rw [hf] at h
   simp only at h
   split at h
   ·cases h
   ·rename_i ha
    by_cases hin : i < n
    ·exact furF_none hf i hin
    ·obtain rfl : i = n := by omega
     simpa using ha
  | some b =>
   rw [hf] at h
   simp only at h
   split at h <;> cases h
theorem furF_some {among : Nat → Bool} {of : Nat → Int} : ∀ {n b : Nat},furF among of n = some b → b < n ∧ among b = true ∧ ∀ i,i < n → among i = true → of i ≤ of b
 | 0,b,h => by cases h
 | n + 1,b,h => by
  unfold furF at h
  cases hf : furF among of n with
  | none =>
   rw [hf] at h
   simp only at h
   split at h
   ·rename_i ha
    injection h with h
    subst h
    refine ⟨by omega,ha,fun i hi hai => ?_⟩
    by_cases hin : i < n
    ·have := furF_none hf i hin
     rw [this] at hai;cases hai
    ·obtain rfl : i = n := by omega
     exact Int.le_refl _
   ·cases h
  | some c =>
   rw [hf] at h
   simp only at h
   obtain ⟨c1,c2,c3⟩ := furF_some hf
   split at h
   ·rename_i ha
    injection h with h
    subst h
    simp only [Bool.and_eq_true,decide_eq_true_eq] at ha
    refine ⟨by omega,ha.1,fun i hi hai => ?_⟩
    by_cases hin : i < n
    ·have := c3 i hin hai;omega
    ·obtain rfl : i = n := by omega
     exact Int.le_refl _
   ·rename_i ha
    injection h with h
    subst h
    refine ⟨by omega,c2,fun i hi hai => ?_⟩
    by_cases hin : i < n
    ·exact c3 i hin hai
    ·obtain rfl : i = n := by omega
     rw [hai,Bool.true_and] at ha
     simp only [decide_eq_true_eq] at ha
     omega

def aboveF (C N : List Int) (S T : Int) (i : Nat) : Int := C.getD i 0 * S - N.getD i 0 * T
def initN (C : List Int) (S T : Int) : List Int := C.map fun c => if 0 < c then (if c * S / T < 1 then 1 else c * S / T) else 0
def upN (C N : List Int) (S T : Int) : List Int := match furF (fun i => decide (0 < C.getD i 0)) (aboveF C N S T) C.length with
 | none => N
 | some b => N.set b (N.getD b 0 + 1)
def downN (C N : List Int) (S T : Int) : List Int := match furF (fun i => decide (1 < N.getD i 0)) (fun i => - aboveF C N S T i) C.length with
 | none => N
 | some b => N.set b (N.getD b 0 - 1)
def upK (C : List Int) (S T : Int) : Nat → List Int → List Int
 | 0,N => N
 | k + 1,N => upK C S T k (upN C N S T)
def downK (C : List Int) (S T : Int) : Nat → List Int → List Int
 | 0,N => N
 | k + 1,N => downK C S T k (downN C N S T)
def sumZ : List Int → Int
 | [] => 0
 | x :: l => x + sumZ l
def mendN (C : List Int) (S T : Int) : List Int := if sumZ (initN C S T) ≤ S then upK C S T (S - sumZ (initN C S T)).toNat (initN C S T) else downK C S T (sumZ (initN C S T) - S).toNat (initN C S T)
def markN (C N : List Int) (S T : Int) : List Int := (List.range C.length).map fun i => if 0 < C.getD i 0 ∧ C.getD i 0 * S < T then -1 else N.getD i 0
def usedN (C : List Int) : Nat → Nat
 | 0 => 0
 | i + 1 => if 0 < C.getD i 0 then i + 1 else usedN C i
def normF (C : List Int) (S T : Int) : List Int := (markN C (mendN C S T) S T).take (usedN C C.length)
def posN : List Int → Int
 | [] => 0
 | c :: l => (if 0 < c then 1 else 0) + posN l

theorem sumZ_set : ∀ (l : List Int) (b : Nat) (x : Int),b < l.length → sumZ (l.set b x) = sumZ l - l.getD b 0 + x
 | [],b,x,h => by simp at h
 | y :: l,0,x,_ => by simp only [List.set_cons_zero,sumZ,List.getD_cons_zero];omega
 | y :: l,b + 1,x,h => by
  have := sumZ_set l b x (by simpa using h)
  simp only [List.set_cons_succ,sumZ,List.getD_cons_succ,this]
  omega
theorem getD_set (l : List Int) (b i : Nat) (x : Int) (h : b < l.length) : (l.set b x).getD i 0 = if i = b then x else l.getD i 0 := by
 rw [List.getD_eq_getElem?_getD,List.getD_eq_getElem?_getD,List.getElem?_set]
 by_cases hi : b = i
 ·subst hi
  rw [if_pos rfl,if_pos rfl,if_pos h];rfl
 ·rw [if_neg hi,if_neg (fun e => hi e.symm)]

structure MendOk (C N : List Int) (S T : Int) : Prop where
 len : N.length = C.length
 zero : ∀ i,i < C.length → C.getD i 0 = 0 → N.getD i 0 = 0
 pos : ∀ i,i < C.length → 0 < C.getD i 0 → 1 ≤ N.getD i 0
 low : ∀ i,i < C.length → 0 < C.getD i 0 → C.getD i 0 * S < T → N.getD i 0 = 1
theorem mul_lists : ∀ (C N : List Int) (S T : Int),N.length = C.length → (∀ i,i < C.length → C.getD i 0 * S ≤ N.getD i 0 * T) → sumZ C * S ≤ sumZ N * T
 | [],[],S,T,_,_ => by simp [sumZ]
 | [],n :: N,S,T,h,_ => by simp at h
 | c :: C,[],S,T,h,_ => by simp at h
 | c :: C,n :: N,S,T,hl,h => by
  have h0 := h 0 (by simp)
  have ih := mul_lists C N S T (by simpa using hl) (fun i hi => by have := h (i + 1) (by simpa using hi);simpa using this)
  simp only [List.getD_cons_zero] at h0
  simp only [sumZ,Int.add_mul]
  omega
theorem sum_le_pos : ∀ (C N : List Int),N.length = C.length → (∀ i,i < C.length → 0 ≤ C.getD i 0) → (∀ i,i < C.length → C.getD i 0 = 0 → N.getD i 0 = 0) → (∀ i,i < C.length → N.getD i 0 ≤ 1) → sumZ N ≤ posN C
 | [],[],_,_,_,_ => by simp [sumZ,posN]
 | [],n :: N,h,_,_,_ => by simp at h
 | c :: C,[],h,_,_,_ => by simp at h
 | c :: C,n :: N,hl,hc,hz,h => by
  have ih := sum_le_pos C N (by simpa using hl) (fun i hi => by have := hc (i + 1) (by simpa using hi);simpa using this) (fun i hi => by have := hz (i + 1) (by simpa using hi);simpa using this) (fun i hi => by have := h (i + 1) (by simpa using hi);simpa using this)
  have h0 := h 0 (by simp)
  have z0 := hz 0 (by simp)
  have c0 := hc 0 (by simp)
  simp only [List.getD_cons_zero] at h0 z0 c0
  simp only [sumZ,posN]
  split
  ·omega
  ·have := z0 (by omega)
   omega

theorem up_ok {C N : List Int} {S T : Int} (h : MendOk C N S T) (hT : 0 < T) (hTs : T = sumZ C) (hC : ∀ i,i < C.length → 0 ≤ C.getD i 0) (hlt : sumZ N < S) : ∃ b,furF (fun i => decide (0 < C.getD i 0)) (aboveF C N S T) C.length = some b ∧ b < C.length ∧ upN C N S T = N.set b (N.getD b 0 + 1) ∧ MendOk C (upN C N S T) S T ∧ sumZ (upN C N S T) = sumZ N + 1 := by
 have hex : ∃ i,i < C.length ∧ N.getD i 0 * T < C.getD i 0 * S := by
  by_cases hb : ∀ i,i < C.length → C.getD i 0 * S ≤ N.getD i 0 * T
  ·exfalso
   have := mul_lists C N S T h.len hb
   rw [← hTs,Int.mul_comm T S] at this
   have h2 : sumZ N * T < S * T := Int.mul_lt_mul_of_pos_right hlt hT
   omega
  ·obtain ⟨i,hi⟩ := Classical.not_forall.1 hb
   obtain ⟨hi1,hi2⟩ := Classical.not_imp.1 hi
   exact ⟨i,hi1,by omega⟩
 obtain ⟨i,hi1,hi2⟩ := hex
 have hci : 0 < C.getD i 0 := by
  by_cases h0 : C.getD i 0 = 0
  ·rw [h0,h.zero i hi1 h0] at hi2
   omega
  ·have := hC i hi1;omega
 cases hf : furF (fun i => decide (0 < C.getD i 0)) (aboveF C N S T) C.length with
 | none =>
  have := furF_none hf i hi1
  simp only [decide_eq_false_iff_not] at this
  omega
 | some b =>
  obtain ⟨b1,b2,b3⟩ := furF_some hf
  simp only [decide_eq_true_eq] at b2
  have hb := b3 i hi1 (by simpa using hci)
  have hbl : b < N.length := by rw [h.len];exact b1
  have hab : 0 < aboveF C N S T b := by
   have : 0 < aboveF C N S T i := by unfold aboveF;omega
   omega
  have hpb := h.pos b b1 b2
  have hbig : T ≤ C.getD b 0 * S := by
   unfold aboveF at hab
   have : 1 * T ≤ N.getD b 0 * T := Int.mul_le_mul_of_nonneg_right hpb (by omega)
   omega
  have hu : upN C N S T = N.set b (N.getD b 0 + 1) := by unfold upN;rw [hf]
  refine ⟨b,rfl,b1,hu,?_,?_⟩
  ·rw [hu]
   refine ⟨by rw [List.length_set];exact h.len,fun j hj h0 => ?_,fun j hj h0 => ?_,fun j hj h0 h1 => ?_⟩
   ·rw [getD_set _ _ _ _ hbl]
    split
    ·rename_i e;subst e;omega
    ·exact h.zero j hj h0
   ·rw [getD_set _ _ _ _ hbl]
    split
    ·omega
    ·exact h.pos j hj h0
   ·rw [getD_set _ _ _ _ hbl]
    split
    ·rename_i e;subst e;omega
    ·exact h.low j hj h0 h1
  ·rw [hu,sumZ_set _ _ _ hbl];omega
theorem down_ok {C N : List Int} {S T : Int} (h : MendOk C N S T) (hC : ∀ i,i < C.length → 0 ≤ C.getD i 0) (hp : posN C ≤ S) (hlt : S < sumZ N) : ∃ b,furF (fun i => decide (1 < N.getD i 0)) (fun i => - aboveF C N S T i) C.length = some b ∧ b < C.length ∧ downN C N S T = N.set b (N.getD b 0 - 1) ∧ MendOk C (downN C N S T) S T ∧ sumZ (downN C N S T) = sumZ N - 1 := by
 cases hf : furF (fun i => decide (1 < N.getD i 0)) (fun i => - aboveF C N S T i) C.length with
 | none =>
  exfalso
  have := sum_le_pos C N h.len hC h.zero (fun i hi => by
   have := furF_none hf i hi
   simp only [decide_eq_false_iff_not] at this
   omega)
  omega
 | some b =>
  obtain ⟨b1,b2,-⟩ := furF_some hf
  simp only [decide_eq_true_eq] at b2
  have hbl : b < N.length := by rw [h.len];exact b1
  have hu : downN C N S T = N.set b (N.getD b 0 - 1) := by unfold downN;rw [hf]
  refine ⟨b,rfl,b1,hu,?_,?_⟩
  ·rw [hu]
   refine ⟨by rw [List.length_set];exact h.len,fun j hj h0 => ?_,fun j hj h0 => ?_,fun j hj h0 h1 => ?_⟩
   ·rw [getD_set _ _ _ _ hbl]
    split
    ·rename_i e;subst e
     have := h.zero j b1 h0
     omega
    ·exact h.zero j hj h0
   ·rw [getD_set _ _ _ _ hbl]
    split
    ·rename_i e;subst e;omega
    ·exact h.pos j hj h0
   ·rw [getD_set _ _ _ _ hbl]
    split
    ·rename_i e;subst e
     have := h.low j b1 h0 h1
     omega
    ·exact h.low j hj h0 h1
  ·rw [hu,sumZ_set _ _ _ hbl];omega
theorem upK_ok {C : List Int} {S T : Int} (hT : 0 < T) (hTs : T = sumZ C) (hC : ∀ i,i < C.length → 0 ≤ C.getD i 0) : ∀ (k : Nat) (N : List Int),MendOk C N S T → sumZ N + (k : Int) ≤ S → MendOk C (upK C S T k N) S T ∧ sumZ (upK C S T k N) = sumZ N + (k : Int)
 | 0,N,h,_ => ⟨h,by simp [upK]⟩
 | k + 1,N,h,hk => by
  obtain ⟨b,-,-,-,h1,h2⟩ := up_ok h hT hTs hC (by omega)
  obtain ⟨g1,g2⟩ := upK_ok hT hTs hC k (upN C N S T) h1 (by omega)
  exact ⟨g1,by rw [upK,g2,h2];omega⟩
theorem downK_ok {C : List Int} {S T : Int} (hC : ∀ i,i < C.length → 0 ≤ C.getD i 0) (hp : posN C ≤ S) : ∀ (k : Nat) (N : List Int),MendOk C N S T → S ≤ sumZ N - (k : Int) → MendOk C (downK C S T k N) S T ∧ sumZ (downK C S T k N) = sumZ N - (k : Int)
 | 0,N,h,_ => ⟨h,by simp [downK]⟩
 | k + 1,N,h,hk => by
  obtain ⟨b,-,-,-,h1,h2⟩ := down_ok h hC hp (by omega)
  obtain ⟨g1,g2⟩ := downK_ok hC hp k (downN C N S T) h1 (by omega)
  exact ⟨g1,by rw [downK,g2,h2];omega⟩
theorem init_ok {C : List Int} {S T : Int} (hT : 0 < T) : MendOk C (initN C S T) S T := by
 have hget : ∀ i,i < C.length → (initN C S T).getD i 0 = if 0 < C.getD i 0 then (if C.getD i 0 * S / T < 1 then 1 else C.getD i 0 * S / T) else 0 := fun i hi => by
  unfold initN
  rw [List.getD_eq_getElem?_getD,List.getElem?_map,List.getD_eq_getElem?_getD,List.getElem?_eq_getElem hi]
  rfl
 refine ⟨by simp [initN],fun i hi h0 => ?_,fun i hi h0 => ?_,fun i hi h0 h1 => ?_⟩
 ·rw [hget i hi,h0];rfl
 ·rw [hget i hi,if_pos h0]
  split <;> omega
 ·rw [hget i hi,if_pos h0,if_pos]
  have := Int.ediv_lt_of_lt_mul hT (show C.getD i 0 * S < 1 * T by omega)
  exact this
theorem mend_ok {C : List Int} {S T : Int} (hT : 0 < T) (hTs : T = sumZ C) (hC : ∀ i,i < C.length → 0 ≤ C.getD i 0) (hp : posN C ≤ S) : MendOk C (mendN C S T) S T ∧ sumZ (mendN C S T) = S := by
 unfold mendN
 split
 ·rename_i h
  obtain ⟨h1,h2⟩ := upK_ok (S := S) hT hTs hC (S - sumZ (initN C S T)).toNat _ (init_ok hT) (by omega)
  exact ⟨h1,by rw [h2];omega⟩
 ·rename_i h
  obtain ⟨h1,h2⟩ := downK_ok (S := S) (T := T) hC hp (sumZ (initN C S T) - S).toNat _ (init_ok hT) (by omega)
  exact ⟨h1,by rw [h2];omega⟩

theorem usedN_le (C : List Int) : ∀ n,usedN C n ≤ n
 | 0 => Nat.le_refl _
 | n + 1 => by
  have := usedN_le C n
  unfold usedN
  split <;> omega
theorem usedN_after {C : List Int} : ∀ {n i : Nat},usedN C n ≤ i → i < n → ¬ 0 < C.getD i 0
 | 0,i,_,h => by omega
 | n + 1,i,h1,h2 => by
  unfold usedN at h1
  split at h1
  ·omega
  ·rename_i h
   by_cases hin : i < n
   ·exact usedN_after h1 hin
   ·obtain rfl : i = n := by omega
    exact h
theorem usedN_last {C : List Int} : ∀ {n : Nat},0 < usedN C n → 0 < C.getD (usedN C n - 1) 0
 | 0,h => by simp [usedN] at h
 | n + 1,h => by
  unfold usedN at h ⊢
  split
  ·rename_i h1
   simpa using h1
  ·rename_i h1
   rw [if_neg h1] at h
   exact usedN_last h
theorem sumN_zero : ∀ {l : List Int},(∀ x ∈ l,x = 0) → sumN l = 0
 | [],_ => rfl
 | x :: l,h => by
  have := sumN_zero (l := l) (fun y hy => h y (by simp [hy]))
  have hx := h x (by simp)
  subst hx
  simp [sumN,this,stN]
theorem mark_sum {C N : List Int} {S T : Int} (h : MendOk C N S T) (hC : ∀ i,i < C.length → 0 ≤ C.getD i 0) : ∀ k,k ≤ C.length → sumN ((markN C N S T).take k) = sumZ (N.take k)
 | 0,_ => by simp [sumN,sumZ]
 | k + 1,hk => by
  have ih := mark_sum h hC k (by omega)
  have hm : (markN C N S T)[k]? = some (if 0 < C.getD k 0 ∧ C.getD k 0 * S < T then -1 else N.getD k 0) := by
   unfold markN
   rw [List.getElem?_map,List.getElem?_range (by omega)]
   rfl
  have hN : N[k]? = some (N.getD k 0) := by
   rw [List.getD_eq_getElem?_getD,List.getElem?_eq_getElem (by rw [h.len];omega)];rfl
  have hs : ∀ (l : List Int) (x : Int),sumZ (l ++ [x]) = sumZ l + x := by
   intro l x
   induction l with
   | nil => simp [sumZ]
   | cons y l ih => simp only [List.cons_append,sumZ,ih];omega
  rw [sumN_take hm,ih,List.take_add_one,hN]
  simp only [Option.toList_some]
  rw [hs]
  congr 1
  by_cases hc : 0 < C.getD k 0 ∧ C.getD k 0 * S < T
  ·rw [if_pos hc,h.low k (by omega) hc.1 hc.2];rfl
  ·rw [if_neg hc]
   unfold stN
   rw [if_neg]
   intro e
   by_cases h0 : C.getD k 0 = 0
   ·have := h.zero k (by omega) h0;omega
   ·have := h.pos k (by omega) (by have := hC k (by omega);omega);omega
theorem markN_len (C N : List Int) (S T : Int) : (markN C N S T).length = C.length := by simp [markN]
theorem mark_get {C N : List Int} {S T : Int} (h : MendOk C N S T) (hC : ∀ i,i < C.length → 0 ≤ C.getD i 0) {i : Nat} (hi : i < C.length) : -1 ≤ (markN C N S T).getD i 0 ∧ ((markN C N S T).getD i 0 ≠ 0 ↔ 0 < C.getD i 0) := by
 have hm : (markN C N S T).getD i 0 = if 0 < C.getD i 0 ∧ C.getD i 0 * S < T then -1 else N.getD i 0 := by
  unfold markN
  rw [List.getD_eq_getElem?_getD,List.getElem?_map,List.getElem?_range hi]
  rfl
 rw [hm]
 by_cases h0 : C.getD i 0 = 0
 ·have hz := h.zero i hi h0
  rw [if_neg (by omega),hz]
  omega
 ·have hp := h.pos i hi (by have := hC i hi;omega)
  have := hC i hi
  split <;> omega
theorem normF_ok {C : List Int} {S T : Int} {log : Nat} (hS : S = ((2 ^ log : Nat) : Int)) (hlog : log ≤ 9) (hT : 0 < T) (hTs : T = sumZ C) (hC : ∀ i,i < C.length → 0 ≤ C.getD i 0) (hp : posN C ≤ S) (hu : 0 < usedN C C.length) (hl : C.length ≤ 256) :
  TblOk log (normF C S T) ∧ (normF C S T).getD ((normF C S T).length - 1) 0 ≠ 0 ∧ (normF C S T).length = usedN C C.length ∧ ∀ i,i < C.length → 0 < C.getD i 0 → i < (normF C S T).length ∧ (normF C S T).getD i 0 ≠ 0 := by
 obtain ⟨h1,h2⟩ := mend_ok hT hTs hC hp
 have hul := usedN_le C C.length
 have hml := markN_len C (mendN C S T) S T
 have hlen : (normF C S T).length = usedN C C.length := by unfold normF;rw [List.length_take,hml];omega
 have hget : ∀ i,i < usedN C C.length → (normF C S T).getD i 0 = (markN C (mendN C S T) S T).getD i 0 := fun i hi => by
  unfold normF
  rw [List.getD_eq_getElem?_getD,List.getElem?_take_of_lt hi,← List.getD_eq_getElem?_getD]
 have hsum : sumN (normF C S T) = S := by
  have e1 := mark_sum h1 hC C.length (Nat.le_refl _)
  rw [List.take_of_length_le (by omega),List.take_of_length_le (by rw [h1.len];omega),h2] at e1
  have e2 := sumN_append (normF C S T) ((markN C (mendN C S T) S T).drop (usedN C C.length))
  unfold normF at e2
  rw [List.take_append_drop,e1] at e2
  have e3 := sumN_zero (l := (markN C (mendN C S T) S T).drop (usedN C C.length)) (fun x hx => by
   obtain ⟨j,hj⟩ := List.getElem?_of_mem hx
   rw [List.getElem?_drop] at hj
   have hjl := (List.getElem?_eq_some_iff.1 hj).1
   rw [hml] at hjl
   have hg := mark_get h1 hC hjl
   have hn := usedN_after (C := C) (n := C.length) (i := usedN C C.length + j) (by omega) hjl
   have hx0 : (markN C (mendN C S T) S T).getD (usedN C C.length + j) 0 = x := by rw [List.getD_eq_getElem?_getD,hj];rfl
   rw [hx0] at hg
   by_cases hx1 : x = 0
   ·exact hx1
   ·exact (hn (hg.2.1 hx1)).elim)
  unfold normF
  omega
 refine ⟨⟨hlog,by omega,by omega,fun n hn => ?_,by rw [hsum,hS]⟩,?_,hlen,fun i hi hc => ?_⟩
 ·obtain ⟨j,hj⟩ := List.getElem?_of_mem hn
  have hjl := (List.getElem?_eq_some_iff.1 hj).1
  have hx0 : (normF C S T).getD j 0 = n := by rw [List.getD_eq_getElem?_getD,hj];rfl
  rw [← hx0,hget j (by omega)]
  exact (mark_get h1 hC (by omega)).1
 ·rw [hlen,hget _ (by omega)]
  exact (mark_get h1 hC (by omega)).2.2 (usedN_last hu)
 ·have hiu : i < usedN C C.length := by
   by_cases hb : i < usedN C C.length
   ·exact hb
   ·exact (usedN_after (C := C) (n := C.length) (by omega) hi hc).elim
  exact ⟨by omega,by rw [hget i hiu];exact (mark_get h1 hC hi).2.2 hc⟩
end

section
open Go.RowKit

theorem sumZ_append (l m : List Int) : sumZ (l ++ m) = sumZ l + sumZ m := by
 induction l with
 | nil => simp [sumZ]
 | cons x l ih => simp only [List.cons_append,sumZ,ih];omega
theorem sumZ_take {l : List Int} {k : Nat} {x : Int} (h : l[k]? = some x) : sumZ (l.take (k + 1)) = sumZ (l.take k) + x := by
 rw [List.take_add_one,h,sumZ_append];simp [sumZ]
theorem posN_append (l m : List Int) : posN (l ++ m) = posN l + posN m := by
 induction l with
 | nil => simp [posN]
 | cons x l ih => simp only [List.cons_append,posN,ih];omega
theorem posN_take {l : List Int} {k : Nat} {x : Int} (h : l[k]? = some x) : posN (l.take (k + 1)) = posN (l.take k) + (if 0 < x then 1 else 0) := by
 rw [List.take_add_one,h,posN_append];simp [posN]
theorem sumZ_nonneg {l : List Int} (h : ∀ x ∈ l,0 ≤ x) : 0 ≤ sumZ l := by
 induction l with
 | nil => simp [sumZ]
 | cons x l ih =>
  have h1 := h x (by simp)
  have h2 := ih (fun y hy => h y (by simp [hy]))
  simp only [sumZ];omega
theorem sumZ_prefix {l : List Int} (h : ∀ x ∈ l,0 ≤ x) (k : Nat) : 0 ≤ sumZ (l.take k) ∧ sumZ (l.take k) ≤ sumZ l := by
 have e := sumZ_append (l.take k) (l.drop k)
 rw [List.take_append_drop] at e
 have h1 := sumZ_nonneg (l := l.drop k) (fun x hx => h x (List.mem_of_mem_drop hx))
 have h2 := sumZ_nonneg (l := l.take k) (fun x hx => h x (List.mem_of_mem_take hx))
 omega
theorem posN_bound (l : List Int) : 0 ≤ posN l ∧ posN l ≤ (l.length : Int) := by
 induction l with
 | nil => simp [posN]
 | cons x l ih => simp only [posN,List.length_cons];split <;> omega

set_option maxHeartbeats 4000000 in
theorem nall_ok (v : Value) (l : List Int) (w : World) (hv : RdI .i64 w v l) (hl : l.length ≤ 1000000) (h0 : ∀ x ∈ l,0 ≤ x) (hT : sumZ l ≤ 1099511627776) (hp : 0 < posN l) :
  Calls Tryz.prog 197 #[v] w fun e w' => e = .returned (.tuple #[.int .i64 (sumZ l),.int .i64 (posN l),.bool true]) ∧ Keeps w w' [] := by
 obtain ⟨A0,n,cp,rfl,hn,-⟩ := hv.form
 have HV := Lib.hid hv
 have H0 := Lib.hid h0
 have HPF := Lib.hid (fun k => sumZ_prefix h0 k)
 have HN := Lib.hid hn
 have hcap := hv.cap
 obtain ⟨T,hTe⟩ : ∃ T,sumZ l = T := ⟨_,rfl⟩
 have HT := Lib.hid hTe
 rw [hTe] at hT
 obtain ⟨U,hU⟩ : ∃ U,posN l = U := ⟨_,rfl⟩
 have HU := Lib.hid hU
 rw [hU] at hp
 rw [hTe,hU]
 have hn6 : n ≤ 1000000 := by omega
 clear hv h0 hn hl hTe hU
 go_enter Tryz.func197,Tryz.ntmps197
 go_wp2_with fail
 go_loopw [2,3,9] (fun s2 s3 s9 wr => ∃ (i : Nat) (X Y : Int),i ≤ n ∧ s9 = .int .i64 (i : Int) ∧ s2 = .int .i64 X ∧ s3 = .int .i64 Y ∧ Hid (X = sumZ (l.take i)) ∧ Hid (Y = posN (l.take i)) ∧ 0 ≤ X ∧ X ≤ T ∧ 0 ≤ Y ∧ Y ≤ 1000000 ∧ wr = w) (fun _ _ s9 _ => n - (intOf s9).toNat)
 case atStart => exact ⟨0,0,0,Nat.zero_le _,rfl,rfl,rfl,Lib.hid (by simp [sumZ]),Lib.hid (by simp [posN]),by omega,by have := HPF.out 0;simp [sumZ] at this;rw [← HT.out];omega,by omega,by omega,rfl⟩
 case round =>
  obtain ⟨i,X,Y,hi,rfl,rfl,rfl,hX,hY,hX0,hXT,hY0,hY6,rfl⟩ := hrel
  by_cases hlt : i < n
  ·have hiI : (i : Int) < (n : Int) := by omega
   obtain ⟨x,hx⟩ : ∃ x,l[i]? = some x := ⟨_,List.getElem?_eq_getElem (by have := HN.out;omega)⟩
   obtain ⟨bb,o,rfl,hbb,hc⟩ := HV.out.at hx
   have hx0 := H0.out x (List.mem_of_getElem? hx)
   have hpf := HPF.out (i + 1)
   rw [sumZ_take hx,← hX.out,HT.out] at hpf
   have HX2 : Hid (X + x = sumZ (l.take (i + 1))) := Lib.hid (by rw [sumZ_take hx,← hX.out])
   have HY2 : Hid (Y + (if 0 < x then 1 else 0) = posN (l.take (i + 1))) := Lib.hid (by rw [posN_take hx,← hY.out])
   have hpb := posN_bound (l.take (i + 1))
   rw [← HY2.out,List.length_take] at hpb
   have hpb2 : Y + (if 0 < x then 1 else 0) ≤ 1000000 := by omega
   obtain ⟨D,hD⟩ : ∃ D : Int,1099511627776 - X = D := ⟨_,rfl⟩
   have hwD : wrap64 D = D := IntWalk.wrap64_in _ ⟨by omega,by omega⟩
   have hxD : decide (D < x) = false := decide_eq_false (by omega)
   have hxn : decide (x < 0) = false := decide_eq_false (by omega)
   obtain ⟨Z,hZ⟩ : ∃ D : Int,X + x = D := ⟨_,rfl⟩
   rw [hZ] at HX2 hpf
   have hwZ : wrap64 Z = Z := IntWalk.wrap64_in _ ⟨by omega,by omega⟩
   by_cases hxp : 0 < x
   ·rw [if_pos hxp] at HY2 hpb2
    obtain ⟨Y2,hY2⟩ : ∃ D : Int,Y + 1 = D := ⟨_,rfl⟩
    rw [hY2] at HY2 hpb2
    have hwY : wrap64 Y2 = Y2 := IntWalk.wrap64_in _ ⟨by omega,by omega⟩
    clear hx hpb
    go_wp2_with fail
    go_roundw
    case rel => exact ⟨i + 1,Z,Y2,by omega,by go_num,rfl,rfl,HX2,HY2,by omega,by omega,by omega,by omega,trivial⟩
    case measure => simp [intOf];omega
   ·rw [if_neg hxp,Int.add_zero] at HY2
    have hxpI : decide (0 < x) = false := decide_eq_false hxp
    clear hx hpb hpb2
    go_wp2_with fail
    go_roundw
    case rel => exact ⟨i + 1,Z,Y,by omega,by go_num,rfl,rfl,HX2,HY2,by omega,by omega,by omega,by omega,trivial⟩
    case measure => simp [intOf];omega
  ·obtain rfl : i = n := by omega
   have hii : decide ((i : Int) < (i : Int)) = false := by simp
   have hXe : X = T := by rw [hX.out,List.take_of_length_le (by have := HN.out;omega),HT.out]
   have hYe : Y = U := by rw [hY.out,List.take_of_length_le (by have := HN.out;omega),HU.out]
   subst hXe hYe
   clear hX hY
   go_wp2_with fail
   exact bodyPost_ret (v := .tuple #[.int .i64 X,.int .i64 Y,.bool true]) (by simp only [results,Tryz.results197];go_simp) rfl ⟨rfl,Keeps.refl _ _⟩

/-! The closures. -/
theorem nz2_any (bC i : Nat) (v : Value) (C : List Int) (w : World) (hb : Blk w bC #[v] 25) (hv : RdI .i64 w v C) (hi : i < C.length) :
  Calls Tryz.prog 199 #[.int .i64 (i : Int),.pointer (some ⟨bC,0,none⟩)] w fun e w' => e = .returned (.bool (decide (0 < C.getD i 0))) ∧ Keeps w w' [] := by
 obtain ⟨A0,n,cp,rfl,hn,-⟩ := hv.form
 obtain ⟨x,hx⟩ : ∃ x,C[i]? = some x := ⟨_,List.getElem?_eq_getElem hi⟩
 have hg : C.getD i 0 = x := by rw [List.getD_eq_getElem?_getD,hx];rfl
 rw [hg]
 obtain ⟨bb,o,rfl,hbb,hc⟩ := hv.at hx
 have hcap := hv.cap
 obtain ⟨c0,-⟩ := hb.one
 have hiI : (i : Int) < (n : Int) := by omega
 clear hb hv hx hg hn hi
 go_enter Tryz.func199,Tryz.ntmps199
 go_wp2_with fail
 go_ret
 exact ⟨rfl,Keeps.refl _ _⟩
theorem nz3_any (bN g i n c : Nat) (N : List Int) (w : World) (hb : Blk w bN #[.slice (some ⟨g,0,none⟩) n c] 25) (hv : RowI w g n c N) (hi : i < n) :
  Calls Tryz.prog 200 #[.int .i64 (i : Int),.pointer (some ⟨bN,0,none⟩)] w fun e w' => e = .returned (.bool (decide (1 < N.getD i 0))) ∧ Keeps w w' [] := by
 have hl := hv.1
 obtain ⟨x,hx⟩ : ∃ x,N[i]? = some x := ⟨_,List.getElem?_eq_getElem (by omega)⟩
 have hg : N.getD i 0 = x := by rw [List.getD_eq_getElem?_getD,hx];rfl
 rw [hg]
 have hc := hv.at hx
 have hcap := hv.cap
 obtain ⟨c0,-⟩ := hb.one
 have hiI : (i : Int) < (n : Int) := by omega
 clear hb hv hx hg hl hi
 go_enter Tryz.func200,Tryz.ntmps200
 go_wp2_with fail
 go_ret
 exact ⟨rfl,Keeps.refl _ _⟩
set_option maxHeartbeats 2000000 in
theorem nz1_any (bC bS bN bT g i n c : Nat) (v : Value) (C N : List Int) (S T : Int) (w : World) (hbC : Blk w bC #[v] 25) (hv : RdI .i64 w v C) (hbS : Blk w bS #[.int .i64 S] 3) (hbN : Blk w bN #[.slice (some ⟨g,0,none⟩) n c] 25) (hN : RowI w g n c N) (hbT : Blk w bT #[.int .i64 T] 3)
  (hi : i < n) (hl : C.length = n) (hc : 0 ≤ C.getD i 0 ∧ C.getD i 0 ≤ 1099511627776) (hS : 0 ≤ S ∧ S ≤ 512) (hNi : 0 ≤ N.getD i 0 ∧ N.getD i 0 ≤ 1024) (hT : 0 ≤ T ∧ T ≤ 1099511627776) :
  Calls Tryz.prog 198 #[.int .i64 (i : Int),.pointer (some ⟨bC,0,none⟩),.pointer (some ⟨bS,0,none⟩),.pointer (some ⟨bN,0,none⟩),.pointer (some ⟨bT,0,none⟩)] w fun e w' => e = .returned (.int .i64 (aboveF C N S T i)) ∧ Keeps w w' [] := by
 obtain ⟨A0,m,cp,rfl,hm,-⟩ := hv.form
 obtain ⟨x,hx⟩ : ∃ x,C[i]? = some x := ⟨_,List.getElem?_eq_getElem (by omega)⟩
 have hgx : C.getD i 0 = x := by rw [List.getD_eq_getElem?_getD,hx];rfl
 have hl2 := hN.1
 obtain ⟨y,hy⟩ : ∃ y,N[i]? = some y := ⟨_,List.getElem?_eq_getElem (by omega)⟩
 have hgy : N.getD i 0 = y := by rw [List.getD_eq_getElem?_getD,hy];rfl
 unfold aboveF
 rw [hgx] at hc ⊢
 rw [hgy] at hNi ⊢
 obtain ⟨bb,o,rfl,hbb,hcx⟩ := hv.at hx
 have hcapC := hv.cap
 have hcy := hN.at hy
 have hcapN := hN.cap
 obtain ⟨c0,-⟩ := hbC.one
 obtain ⟨c1,-⟩ := hbS.one
 obtain ⟨c2,-⟩ := hbN.one
 obtain ⟨c3,-⟩ := hbT.one
 have hxS : 0 ≤ x * S ∧ x * S ≤ 1099511627776 * 512 := ⟨Int.mul_nonneg hc.1 hS.1,Int.mul_le_mul hc.2 hS.2 hS.1 (by decide)⟩
 have hyT : 0 ≤ y * T ∧ y * T ≤ 1024 * 1099511627776 := ⟨Int.mul_nonneg hNi.1 hT.1,Int.mul_le_mul hNi.2 hT.2 hT.1 (by decide)⟩
 obtain ⟨X1,hX1⟩ : ∃ D,x * S = D := ⟨_,rfl⟩
 obtain ⟨Y1,hY1⟩ : ∃ D,y * T = D := ⟨_,rfl⟩
 rw [hX1] at hxS ⊢
 rw [hY1] at hyT ⊢
 obtain ⟨Z1,hZ1⟩ : ∃ D,X1 - Y1 = D := ⟨_,rfl⟩
 rw [hZ1]
 have hw1 : wrap64 X1 = X1 := IntWalk.wrap64_in _ ⟨by omega,by omega⟩
 have hw2 : wrap64 Y1 = Y1 := IntWalk.wrap64_in _ ⟨by omega,by omega⟩
 have hw3 : wrap64 Z1 = Z1 := IntWalk.wrap64_in _ ⟨by omega,by omega⟩
 have hv1 : IntKind.i64.wrap X1 = X1 := IntWalk.i64_in _ ⟨by omega,by omega⟩
 have hv2 : IntKind.i64.wrap Y1 = Y1 := IntWalk.i64_in _ ⟨by omega,by omega⟩
 have hv3 : IntKind.i64.wrap Z1 = Z1 := IntWalk.i64_in _ ⟨by omega,by omega⟩
 have hiI : (i : Int) < (m : Int) := by omega
 have hiI2 : (i : Int) < (n : Int) := by omega
 clear hbC hv hbS hbN hN hbT hx hy hgx hgy hl hl2 hm hi hc hS hNi hT hxS hyT
 go_enter Tryz.func198,Tryz.ntmps198
 go_wp2_with fail
 go_quiet (fail)
 go_wp2_with fail
 go_ret
 exact ⟨by first | rfl | rw [hw3],(Keeps.refl w []).drewN _⟩

set_option maxHeartbeats 4000000 in
theorem nfur_up (bC bN bS bT n c : Nat) (a : Option Addr) (am : Nat → Bool) (vf : Nat → Int) (w : World) (hn : n ≤ 1000000)
  (hA : ∀ i W,Keeps w W [] → i < n → Calls Tryz.prog 199 #[.int .i64 (i : Int),.pointer (some ⟨bC,0,none⟩)] W fun e w' => e = .returned (.bool (am i)) ∧ Keeps W w' [])
  (hO : ∀ i W,Keeps w W [] → i < n → Calls Tryz.prog 198 #[.int .i64 (i : Int),.pointer (some ⟨bC,0,none⟩),.pointer (some ⟨bS,0,none⟩),.pointer (some ⟨bN,0,none⟩),.pointer (some ⟨bT,0,none⟩)] W fun e w' => e = .returned (.int .i64 (vf i)) ∧ Keeps W w' []) :
  Calls Tryz.prog 202 #[.slice a n c,.func (.func 199) #[] #[.pointer (some ⟨bC,0,none⟩)],.func (.func 198) #[] #[.pointer (some ⟨bC,0,none⟩),.pointer (some ⟨bS,0,none⟩),.pointer (some ⟨bN,0,none⟩),.pointer (some ⟨bT,0,none⟩)]] w fun e w' => e = .returned (.int .i64 (match furF am vf n with | none => -1 | some b => (b : Int))) ∧ Keeps w w' [] := by
 have HA := Lib.hid hA
 have HO := Lib.hid hO
 have HF : Hid (∀ i,furF am vf (i + 1) = match furF am vf i with | none => if am i then some i else none | some b => if am i && decide (vf b < vf i) then some i else some b) := fun i => rfl
 have HB := Lib.hid (fun i b (h : furF am vf i = some b) => (furF_some h).1)
 obtain ⟨R,hR⟩ : ∃ R : Int,(match furF am vf n with | none => -1 | some b => (b : Int)) = R := ⟨_,rfl⟩
 rw [hR]
 have HR := Lib.hid hR
 clear hA hO hR
 go_enter Tryz.func202,Tryz.ntmps202
 go_wp2_with fail
 go_loopw [7,11] (fun s7 s11 wr => ∃ (i : Nat) (Z : Int),i ≤ n ∧ s11 = .int .i64 (i : Int) ∧ s7 = .int .i64 Z ∧ Keeps w wr [] ∧ Hid ((furF am vf i = none ∧ Z = -1) ∨ (∃ b,furF am vf i = some b ∧ Z = (b : Int)))) (fun _ s11 _ => n - (intOf s11).toNat)
 case atStart => exact ⟨0,-1,Nat.zero_le _,rfl,rfl,Keeps.refl _ _,.inl ⟨rfl,rfl⟩⟩
 case round =>
  obtain ⟨i,Z,hi,rfl,rfl,kk,hz⟩ := hrel
  by_cases hlt : i < n
  ·have hiI : (i : Int) < (n : Int) := by omega
   have HCA := Lib.hid (HA.out i wr kk hlt)
   have hfi := HF.out i
   cases ham : am i with
   | false =>
    rw [ham] at HCA
    have HZ2 : Hid ((furF am vf (i + 1) = none ∧ Z = -1) ∨ (∃ b,furF am vf (i + 1) = some b ∧ Z = (b : Int))) := Lib.hid (by
     rcases hz.out with ⟨h1,h2⟩ | ⟨b,h1,h2⟩
     ·rw [h1,ham] at hfi
      exact .inl ⟨hfi,h2⟩
     ·rw [h1,ham] at hfi
      exact .inr ⟨b,hfi,h2⟩)
    clear hz hfi ham
    go_wp2_with (go_at_call 199;(refine HCA.out.mono ?_;rintro e w2 ⟨rfl,k2⟩))
    go_roundw
    case rel => exact ⟨i + 1,Z,by omega,by go_num,rfl,kk.then k2,HZ2⟩
    case measure => simp [intOf];omega
   | true =>
    rw [ham] at HCA
    rcases hz.out with ⟨h1,h2⟩ | ⟨b,h1,h2⟩
    ·rw [h1,ham] at hfi
     have HZ2 : Hid ((furF am vf (i + 1) = none ∧ (i : Int) = -1) ∨ (∃ b,furF am vf (i + 1) = some b ∧ (i : Int) = (b : Int))) := Lib.hid (.inr ⟨i,hfi,rfl⟩)
     have hZ0 : decide (Z < 0) = true := decide_eq_true (by omega)
     clear hz hfi ham h1 h2
     go_wp2_with (go_at_call 199;(refine HCA.out.mono ?_;rintro e w2 ⟨rfl,k2⟩))
     go_roundw
     case rel => exact ⟨i + 1,(i : Int),by omega,by go_num,rfl,kk.then k2,HZ2⟩
     case measure => simp [intOf];omega
    ·rw [h1,ham] at hfi
     simp only [Bool.true_and,decide_eq_true_eq] at hfi
     have hbi := HB.out i b h1
     have hZ0 : decide (Z < 0) = false := decide_eq_false (by omega)
     subst h2
     have HO1 := Lib.hid (fun W (k : Keeps w W []) => HO.out i W k hlt)
     have HO2 := Lib.hid (fun W (k : Keeps w W []) => HO.out b W k (by omega))
     obtain ⟨V1,hV1⟩ : ∃ V,vf i = V := ⟨_,rfl⟩
     obtain ⟨V2,hV2⟩ : ∃ V,vf b = V := ⟨_,rfl⟩
     rw [hV1,hV2] at hfi
     rw [hV1] at HO1
     rw [hV2] at HO2
     by_cases hvv : V2 < V1
     ·have hvb : decide (V2 < V1) = true := decide_eq_true hvv
      rw [if_pos hvv] at hfi
      have HZ2 : Hid ((furF am vf (i + 1) = none ∧ (i : Int) = -1) ∨ (∃ b,furF am vf (i + 1) = some b ∧ (i : Int) = (b : Int))) := Lib.hid (.inr ⟨i,hfi,rfl⟩)
      clear hz hfi ham h1 hV1 hV2
      go_wp2_with (first
       | (go_at_call 199;(refine HCA.out.mono ?_;rintro e w2 ⟨rfl,k2⟩;have kk2 := kk.then k2))
       | (go_at_call 198;(refine (HO1.out _ kk2).mono ?_;rintro e w3 ⟨rfl,k3⟩;have kk3 := kk2.then k3;clear HO1))
       | (go_at_call 198;(refine (HO2.out _ kk3).mono ?_;rintro e w4 ⟨rfl,k4⟩;have kk4 := kk3.then k4)))
      go_roundw
      case rel => exact ⟨i + 1,(i : Int),by omega,by go_num,rfl,kk4,HZ2⟩
      case measure => simp [intOf];omega
     ·have hvb : decide (V2 < V1) = false := decide_eq_false hvv
      rw [if_neg hvv] at hfi
      have HZ2 : Hid ((furF am vf (i + 1) = none ∧ (b : Int) = -1) ∨ (∃ b',furF am vf (i + 1) = some b' ∧ (b : Int) = (b' : Int))) := Lib.hid (.inr ⟨b,hfi,rfl⟩)
      clear hz hfi ham h1 hV1 hV2
      go_wp2_with (first
       | (go_at_call 199;(refine HCA.out.mono ?_;rintro e w2 ⟨rfl,k2⟩;have kk2 := kk.then k2))
       | (go_at_call 198;(refine (HO1.out _ kk2).mono ?_;rintro e w3 ⟨rfl,k3⟩;have kk3 := kk2.then k3;clear HO1))
       | (go_at_call 198;(refine (HO2.out _ kk3).mono ?_;rintro e w4 ⟨rfl,k4⟩;have kk4 := kk3.then k4)))
      go_roundw
      case rel => exact ⟨i + 1,(b : Int),by omega,by go_num,rfl,kk4,HZ2⟩
      case measure => simp [intOf];omega
  ·obtain rfl : i = n := by omega
   have hii : decide ((i : Int) < (i : Int)) = false := by simp
   have hZR : Z = R := by
    rw [← HR.out]
    rcases hz.out with ⟨h1,h2⟩ | ⟨b,h1,h2⟩
    ·rw [h1];exact h2
    ·rw [h1];exact h2
   subst hZR
   clear hz
   go_wp2_with fail
   go_ret
   exact ⟨rfl,kk⟩

set_option maxHeartbeats 4000000 in
theorem nfur_down (bF bN n c : Nat) (a : Option Addr) (am : Nat → Bool) (vf : Nat → Int) (w : World) (hn : n ≤ 1000000)
  (hA : ∀ i W,Keeps w W [] → i < n → Calls Tryz.prog 200 #[.int .i64 (i : Int),.pointer (some ⟨bN,0,none⟩)] W fun e w' => e = .returned (.bool (am i)) ∧ Keeps W w' [])
  (hO : ∀ i W,Keeps w W [] → i < n → Calls Tryz.prog 201 #[.int .i64 (i : Int),.pointer (some ⟨bF,0,none⟩)] W fun e w' => e = .returned (.int .i64 (vf i)) ∧ Keeps W w' []) :
  Calls Tryz.prog 202 #[.slice a n c,.func (.func 200) #[] #[.pointer (some ⟨bN,0,none⟩)],.func (.func 201) #[] #[.pointer (some ⟨bF,0,none⟩)]] w fun e w' => e = .returned (.int .i64 (match furF am vf n with | none => -1 | some b => (b : Int))) ∧ Keeps w w' [] := by
 have HA := Lib.hid hA
 have HO := Lib.hid hO
 have HF : Hid (∀ i,furF am vf (i + 1) = match furF am vf i with | none => if am i then some i else none | some b => if am i && decide (vf b < vf i) then some i else some b) := fun i => rfl
 have HB := Lib.hid (fun i b (h : furF am vf i = some b) => (furF_some h).1)
 obtain ⟨R,hR⟩ : ∃ R : Int,(match furF am vf n with | none => -1 | some b => (b : Int)) = R := ⟨_,rfl⟩
 rw [hR]
 have HR := Lib.hid hR
 clear hA hO hR
 go_enter Tryz.func202,Tryz.ntmps202
 go_wp2_with fail
 go_loopw [7,11] (fun s7 s11 wr => ∃ (i : Nat) (Z : Int),i ≤ n ∧ s11 = .int .i64 (i : Int) ∧ s7 = .int .i64 Z ∧ Keeps w wr [] ∧ Hid ((furF am vf i = none ∧ Z = -1) ∨ (∃ b,furF am vf i = some b ∧ Z = (b : Int)))) (fun _ s11 _ => n - (intOf s11).toNat)
 case atStart => exact ⟨0,-1,Nat.zero_le _,rfl,rfl,Keeps.refl _ _,.inl ⟨rfl,rfl⟩⟩
 case round =>
  obtain ⟨i,Z,hi,rfl,rfl,kk,hz⟩ := hrel
  by_cases hlt : i < n
  ·have hiI : (i : Int) < (n : Int) := by omega
   have HCA := Lib.hid (HA.out i wr kk hlt)
   have hfi := HF.out i
   cases ham : am i with
   | false =>
    rw [ham] at HCA
    have HZ2 : Hid ((furF am vf (i + 1) = none ∧ Z = -1) ∨ (∃ b,furF am vf (i + 1) = some b ∧ Z = (b : Int))) := Lib.hid (by
     rcases hz.out with ⟨h1,h2⟩ | ⟨b,h1,h2⟩
     ·rw [h1,ham] at hfi
      exact .inl ⟨hfi,h2⟩
     ·rw [h1,ham] at hfi
      exact .inr ⟨b,hfi,h2⟩)
    clear hz hfi ham
    go_wp2_with (go_at_call 200;(refine HCA.out.mono ?_;rintro e w2 ⟨rfl,k2⟩))
    go_roundw
    case rel => exact ⟨i + 1,Z,by omega,by go_num,rfl,kk.then k2,HZ2⟩
    case measure => simp [intOf];omega
   | true =>
    rw [ham] at HCA
    rcases hz.out with ⟨h1,h2⟩ | ⟨b,h1,h2⟩
    ·rw [h1,ham] at hfi
     have HZ2 : Hid ((furF am vf (i + 1) = none ∧ (i : Int) = -1) ∨ (∃ b,furF am vf (i + 1) = some b ∧ (i : Int) = (b : Int))) := Lib.hid (.inr ⟨i,hfi,rfl⟩)
     have hZ0 : decide (Z < 0) = true := decide_eq_true (by omega)
     clear hz hfi ham h1 h2
     go_wp2_with (go_at_call 200;(refine HCA.out.mono ?_;rintro e w2 ⟨rfl,k2⟩))
     go_roundw
     case rel => exact ⟨i + 1,(i : Int),by omega,by go_num,rfl,kk.then k2,HZ2⟩
     case measure => simp [intOf];omega
    ·rw [h1,ham] at hfi
     simp only [Bool.true_and,decide_eq_true_eq] at hfi
     have hbi := HB.out i b h1
     have hZ0 : decide (Z < 0) = false := decide_eq_false (by omega)
     subst h2
     have HO1 := Lib.hid (fun W (k : Keeps w W []) => HO.out i W k hlt)
     have HO2 := Lib.hid (fun W (k : Keeps w W []) => HO.out b W k (by omega))
     obtain ⟨V1,hV1⟩ : ∃ V,vf i = V := ⟨_,rfl⟩
     obtain ⟨V2,hV2⟩ : ∃ V,vf b = V := ⟨_,rfl⟩
     rw [hV1,hV2] at hfi
     rw [hV1] at HO1
     rw [hV2] at HO2
     by_cases hvv : V2 < V1
     ·have hvb : decide (V2 < V1) = true := decide_eq_true hvv
      rw [if_pos hvv] at hfi
      have HZ2 : Hid ((furF am vf (i + 1) = none ∧ (i : Int) = -1) ∨ (∃ b,furF am vf (i + 1) = some b ∧ (i : Int) = (b : Int))) := Lib.hid (.inr ⟨i,hfi,rfl⟩)
      clear hz hfi ham h1 hV1 hV2
      go_wp2_with (first
       | (go_at_call 200;(refine HCA.out.mono ?_;rintro e w2 ⟨rfl,k2⟩;have kk2 := kk.then k2))
       | (go_at_call 201;(refine (HO1.out _ kk2).mono ?_;rintro e w3 ⟨rfl,k3⟩;have kk3 := kk2.then k3;clear HO1))
       | (go_at_call 201;(refine (HO2.out _ kk3).mono ?_;rintro e w4 ⟨rfl,k4⟩;have kk4 := kk3.then k4)))
      go_roundw
      case rel => exact ⟨i + 1,(i : Int),by omega,by go_num,rfl,kk4,HZ2⟩
      case measure => simp [intOf];omega
     ·have hvb : decide (V2 < V1) = false := decide_eq_false hvv
      rw [if_neg hvv] at hfi
      have HZ2 : Hid ((furF am vf (i + 1) = none ∧ (b : Int) = -1) ∨ (∃ b',furF am vf (i + 1) = some b' ∧ (b : Int) = (b' : Int))) := Lib.hid (.inr ⟨b,hfi,rfl⟩)
      clear hz hfi ham h1 hV1 hV2
      go_wp2_with (first
       | (go_at_call 200;(refine HCA.out.mono ?_;rintro e w2 ⟨rfl,k2⟩;have kk2 := kk.then k2))
       | (go_at_call 201;(refine (HO1.out _ kk2).mono ?_;rintro e w3 ⟨rfl,k3⟩;have kk3 := kk2.then k3;clear HO1))
       | (go_at_call 201;(refine (HO2.out _ kk3).mono ?_;rintro e w4 ⟨rfl,k4⟩;have kk4 := kk3.then k4)))
      go_roundw
      case rel => exact ⟨i + 1,(b : Int),by omega,by go_num,rfl,kk4,HZ2⟩
      case measure => simp [intOf];omega
  ·obtain rfl : i = n := by omega
   have hii : decide ((i : Int) < (i : Int)) = false := by simp
   have hZR : Z = R := by
    rw [← HR.out]
    rcases hz.out with ⟨h1,h2⟩ | ⟨b,h1,h2⟩
    ·rw [h1];exact h2
    ·rw [h1];exact h2
   subst hZR
   clear hz
   go_wp2_with fail
   go_ret
   exact ⟨rfl,kk⟩
end

section
def placesOf (g : Nat) (norm : List Int) (s : Nat) : List Nat := (List.range (2 ^ g)).filter (fun p => placeN g norm p == s)

theorem filter_len_count {α : Type} [BEq α] [LawfulBEq α] (f : Nat → α) (s : α) : ∀ L : List Nat,(L.filter (fun p => f p == s)).length = (L.map f).count s
 | [] => rfl
 | p :: L => by
  have := filter_len_count f s L
  rw [List.map_cons,List.count_cons,List.filter_cons]
  split
  ·rw [List.length_cons,this]
  ·rw [this];rfl
theorem count_nodup_range (P : Nat → Bool) (s n : Nat) : ((List.range n).filter P).count s = if s < n ∧ P s = true then 1 else 0 := by
 induction n with
 | zero => simp
 | succ n ih =>
  rw [List.range_succ,List.filter_append,List.count_append,ih,List.filter_cons,List.filter_nil]
  by_cases hs : s = n
  ·subst hs
   rw [if_neg (by omega)]
   cases h : P s <;> simp
  ·have hne : (if P n = true then [n] else []).count s = 0 := by
    split
    ·rw [List.count_cons,List.count_nil,if_neg (by simpa using fun h => hs h.symm)]
    ·rfl
   rw [hne,Nat.add_zero]
   by_cases h : s < n ∧ P s = true
   ·rw [if_pos h,if_pos ⟨by omega,h.2⟩]
   ·rw [if_neg h,if_neg (fun h2 => h ⟨by omega,h2.2⟩)]
theorem count_others (f : Nat → Nat) (s n : Nat) : ((List.range n).flatMap fun i => List.replicate (f i) i).count s = if s < n then f s else 0 := by
 induction n with
 | zero => simp
 | succ n ih =>
  rw [List.range_succ,List.flatMap_append,List.count_append,ih,List.flatMap_cons,List.flatMap_nil,List.append_nil,List.count_replicate]
  by_cases hs : s = n
  ·subst hs
   simp
  ·have : ¬ (n == s) = true := by simpa using fun h => hs h.symm
   rw [if_neg this,Nat.add_zero]
   by_cases h : s < n
   ·rw [if_pos h,if_pos (by omega)]
   ·rw [if_neg h,if_neg (by omega)]
theorem map_idxOf (fr others : List Nat) (hn : fr.Nodup) (hl : fr.length = others.length) : fr.map (fun p => others.getD (fr.idxOf p) 0) = others := by
 apply List.ext_getElem
 ·simpa using hl
 ·intro i h1 h2
  rw [List.getElem_map]
  have hi : i < fr.length := by simpa using h1
  have : fr.idxOf fr[i] = i := List.Nodup.idxOf_getElem hn i hi
  rw [this,List.getD_eq_getElem?_getD,List.getElem?_eq_getElem h2]
  rfl
theorem range_map_rev (L : List Nat) : ∀ k,k = L.length → (List.range k).map (fun p => L.getD (k - 1 - p) 0) = L.reverse := by
 intro k hk
 subst hk
 apply List.ext_getElem
 ·simp
 ·intro i h1 h2
  have hi : i < L.length := by simpa using h1
  rw [List.getElem_map,List.getElem_range,List.getElem_reverse,List.getD_eq_getElem?_getD,List.getElem?_eq_getElem (by omega)]
  rfl
theorem free_nodup {g top : Nat} (h : g ≤ 9) : (freeN (2 ^ g) top (2 ^ g)).Nodup := (visit_nodup h).filter _
theorem free_perm {g top : Nat} (h : g ≤ 9) (ht : top ≤ 2 ^ g) : (freeN (2 ^ g) top (2 ^ g)).Perm (List.range top) :=
 (List.perm_ext_iff_of_nodup (free_nodup h) List.nodup_range).2 fun p => by
  constructor
  ·intro hp
   exact List.mem_range.2 (mem_free.1 hp).2
  ·intro hp
   exact free_all h (List.mem_range.1 hp) ht
theorem places_count {g s : Nat} {norm : List Int} (h : TblOk g norm) (hs : s < norm.length) : (placesL g norm).count s = (stN (norm.getD s 0)).toNat := by
 have hlen := h.lens
 have hg := h.g9
 obtain ⟨k,hk⟩ : ∃ k,(lowsL norm).length = k := ⟨_,rfl⟩
 rw [hk] at hlen
 obtain ⟨top,htop⟩ : ∃ t,2 ^ g - k = t := ⟨_,rfl⟩
 have hsplit : List.range (2 ^ g) = List.range top ++ (List.range k).map (fun j => top + j) := by
  rw [show 2 ^ g = top + k by omega,List.range_add]
 unfold placesL
 rw [hsplit,List.map_append,List.count_append,List.map_map]
 have h1 : (List.range top).map (placeN g norm) = (List.range top).map (fun p => (othersL norm).getD ((freeN (2 ^ g) top (2 ^ g)).idxOf p) 0) := by
  apply List.map_congr_left
  intro p hp
  have hp := List.mem_range.1 hp
  unfold placeN
  rw [hk,htop,if_neg (by omega)]
 have h2 : (List.range k).map (placeN g norm ∘ fun j => top + j) = (List.range k).map (fun p => (lowsL norm).getD (k - 1 - p) 0) := by
  apply List.map_congr_left
  intro p hp
  have hp := List.mem_range.1 hp
  show placeN g norm (top + p) = _
  unfold placeN
  rw [hk,htop,if_pos (by omega),show 2 ^ g - 1 - (top + p) = k - 1 - p by omega]
 have hc1 : ((List.range top).map (fun p => (othersL norm).getD ((freeN (2 ^ g) top (2 ^ g)).idxOf p) 0)).count s = (othersL norm).count s := by
  have hp := (free_perm (top := top) hg (by omega)).map (fun p => (othersL norm).getD ((freeN (2 ^ g) top (2 ^ g)).idxOf p) 0)
  rw [← hp.count_eq,map_idxOf _ _ (free_nodup hg) (by rw [free_len hg (by omega)];omega)]
 rw [h1,h2,hc1,range_map_rev _ _ hk.symm,List.count_reverse]
 have e1 : (othersL norm).count s = (norm.getD s 0).toNat := by
  unfold othersL
  rw [count_others,if_pos hs]
 have e2 : (lowsL norm).count s = if norm.getD s 0 = -1 then 1 else 0 := by
  unfold lowsL
  rw [count_nodup_range]
  by_cases hq : norm.getD s 0 = -1
  ·rw [if_pos ⟨hs,by simpa using hq⟩,if_pos hq]
  ·rw [if_neg (fun h => hq (by simpa using h.2)),if_neg hq]
 have hlow := h.low
 rw [e1,e2]
 unfold stN
 by_cases hq : norm.getD s 0 = -1
 ·rw [if_pos hq,if_pos hq,hq];rfl
 ·rw [if_neg hq,if_neg hq];rfl
theorem placesOf_len {g s : Nat} {norm : List Int} (h : TblOk g norm) (hs : s < norm.length) : (placesOf g norm s).length = (stN (norm.getD s 0)).toNat := by
 rw [← places_count h hs,placesOf,filter_len_count]
 rfl
theorem filter_before (P : Nat → Bool) : ∀ (n j p : Nat),((List.range n).filter P)[j]? = some p → ((List.range p).filter P).length = j ∧ p < n ∧ P p = true
 | 0,j,p,h => by simp at h
 | n + 1,j,p,h => by
  rw [List.range_succ,List.filter_append] at h
  by_cases hj : j < ((List.range n).filter P).length
  ·rw [List.getElem?_append_left hj] at h
   obtain ⟨h1,h2,h3⟩ := filter_before P n j p h
   exact ⟨h1,by omega,h3⟩
  ·rw [List.getElem?_append_right (by omega),List.filter_cons,List.filter_nil] at h
   split at h
   ·rename_i hP
    have hj0 : j - ((List.range n).filter P).length = 0 := by
     by_cases h0 : j - ((List.range n).filter P).length = 0
     ·exact h0
     ·obtain ⟨m,hm⟩ : ∃ m,j - ((List.range n).filter P).length = m + 1 := ⟨_,(Nat.succ_pred_eq_of_ne_zero h0).symm⟩
      rw [hm] at h;simp at h
    rw [hj0] at h
    simp at h
    subst h
    exact ⟨by omega,by omega,hP⟩
   ·simp at h
theorem cellX_of {g s j p : Nat} {norm : List Int} (hp : (placesOf g norm s)[j]? = some p) : placeN g norm p = s ∧ p < 2 ^ g ∧ cellX g norm p = (stN (norm.getD s 0)).toNat + j := by
 obtain ⟨h1,h2,h3⟩ := filter_before _ _ _ _ hp
 have hs : placeN g norm p = s := by simpa using h3
 refine ⟨hs,h2,?_⟩
 unfold cellX
 rw [hs]
 congr 1
 rw [← h1,filter_len_count]
 unfold placesL
 rw [← List.map_take,List.take_range,Nat.min_eq_left (by omega)]

def nFind : Nat → Nat → Nat → Nat → Nat
 | 0,_,_,n => n
 | f + 1,x,m,n => if 2 * m ≤ x / 2 ^ n then nFind f x m (n + 1) else n
theorem nFind_ok {x m : Nat} (hm : 1 ≤ m) : ∀ (f n : Nat),m ≤ x / 2 ^ n → x < 2 ^ (n + f) → n ≤ nFind f x m n ∧ m ≤ x / 2 ^ nFind f x m n ∧ x / 2 ^ nFind f x m n < 2 * m
 | 0,n,h1,h2 => by
  rw [Nat.add_zero] at h2
  rw [Nat.div_eq_of_lt h2] at h1
  omega
 | f + 1,n,h1,h2 => by
  unfold nFind
  split
  ·rename_i h
   have e : x / 2 ^ (n + 1) = x / 2 ^ n / 2 := by rw [Nat.pow_succ,Nat.div_div_eq_div_mul]
   obtain ⟨g1,g2,g3⟩ := nFind_ok hm f (n + 1) (by rw [e];omega) (by rw [show n + 1 + f = n + (f + 1) by omega];exact h2)
   exact ⟨by omega,g2,g3⟩
  ·exact ⟨Nat.le_refl _,h1,by omega⟩

def lowN (g : Nat) (norm : List Int) (s : Nat) : Nat := (placesOf g norm s).getD 0 0
def predB (g : Nat) (norm : List Int) (z s : Nat) : Nat := nFind 10 (z + 2 ^ g) (placesOf g norm s).length 0
def predS (g : Nat) (norm : List Int) (z s : Nat) : Nat := (placesOf g norm s).getD ((z + 2 ^ g) / 2 ^ predB g norm z s - (placesOf g norm s).length) 0
def predV (g : Nat) (norm : List Int) (z s : Nat) : Nat := (z + 2 ^ g) % 2 ^ predB g norm z s

theorem predB_ok {g z s : Nat} {norm : List Int} (h : TblOk g norm) (hs : s < norm.length) (h0 : norm.getD s 0 ≠ 0) (hz : z < 2 ^ g) :
  1 ≤ (placesOf g norm s).length ∧ (placesOf g norm s).length ≤ (z + 2 ^ g) / 2 ^ predB g norm z s ∧ (z + 2 ^ g) / 2 ^ predB g norm z s < 2 * (placesOf g norm s).length ∧ predB g norm z s ≤ g := by
 have hx : norm[s]? = some (norm.getD s 0) := by rw [List.getD_eq_getElem?_getD,List.getElem?_eq_getElem hs];rfl
 have hl := h.low _ (List.mem_of_getElem? hx)
 have ht := stN_top h hx
 have hlen := placesOf_len h hs
 have hst : 1 ≤ (placesOf g norm s).length := by rw [hlen];unfold stN;split <;> omega
 have hle : (placesOf g norm s).length ≤ 2 ^ g := by rw [hlen];omega
 have h9 : 2 ^ g ≤ 2 ^ 9 := Nat.pow_le_pow_right (by decide) h.g9
 have h10 : (2 : Nat) ^ 10 = 1024 := by decide
 rw [show (2 : Nat) ^ 9 = 512 by decide] at h9
 obtain ⟨-,g2,g3⟩ := nFind_ok (x := z + 2 ^ g) hst 10 0 (by simp;omega) (by omega)
 refine ⟨hst,g2,g3,?_⟩
 show predB g norm z s ≤ g
 unfold predB
 by_cases hb : nFind 10 (z + 2 ^ g) (placesOf g norm s).length 0 ≤ g
 ·exact hb
 ·exfalso
  have h2 : 2 * 2 ^ g ≤ 2 ^ nFind 10 (z + 2 ^ g) (placesOf g norm s).length 0 := by
   have := Nat.pow_le_pow_right (n := 2) (by decide) (show g + 1 ≤ nFind 10 (z + 2 ^ g) (placesOf g norm s).length 0 by omega)
   rw [Nat.pow_succ] at this
   omega
  rw [Nat.div_eq_of_lt (by omega)] at g2
  omega
theorem log2_div {x g N : Nat} (h1 : 2 ^ g ≤ x) (h2 : x < 2 * 2 ^ g) (hN : N ≤ g) : (x / 2 ^ N).log2 = g - N := by
 have hp : 0 < 2 ^ N := Nat.pow_pos (by decide)
 have e : 2 ^ g = 2 ^ (g - N) * 2 ^ N := by rw [← Nat.pow_add,Nat.sub_add_cancel hN]
 have hl : 2 ^ (g - N) ≤ x / 2 ^ N := (Nat.le_div_iff_mul_le hp).2 (by rw [← e];exact h1)
 have hu : x / 2 ^ N < 2 ^ (g - N + 1) := by
  rw [Nat.div_lt_iff_lt_mul hp,Nat.pow_succ,Nat.mul_comm (2 ^ (g - N)) 2,Nat.mul_assoc,← e]
  exact h2
 have h0 : x / 2 ^ N ≠ 0 := by
  have : 0 < 2 ^ (g - N) := Nat.pow_pos (by decide)
  omega
 apply Nat.le_antisymm
 ·have := (Nat.log2_lt h0).2 hu
  omega
 ·exact (Nat.le_log2 h0).2 hl
theorem pred_cel {g z s : Nat} {norm : List Int} (h : TblOk g norm) (hs : s < norm.length) (h0 : norm.getD s 0 ≠ 0) (hz : z < 2 ^ g) :
  (celP g norm (predS g norm z s)).1 = s ∧ (celP g norm (predS g norm z s)).2.1 = predB g norm z s ∧ (celP g norm (predS g norm z s)).2.2 + predV g norm z s = z ∧ predS g norm z s < 2 ^ g ∧ predV g norm z s < 2 ^ predB g norm z s := by
 obtain ⟨p1,p2,p3,p4⟩ := predB_ok h hs h0 hz
 obtain ⟨N,hN⟩ : ∃ N,predB g norm z s = N := ⟨_,rfl⟩
 obtain ⟨M,hM⟩ : ∃ M,(placesOf g norm s).length = M := ⟨_,rfl⟩
 obtain ⟨y,hy⟩ : ∃ y,(z + 2 ^ g) / 2 ^ N = y := ⟨_,rfl⟩
 rw [hN,hM,hy] at p2 p3
 rw [hN] at p4
 rw [hM] at p1
 have hj : y - M < (placesOf g norm s).length := by omega
 obtain ⟨p,hp⟩ : ∃ p,(placesOf g norm s)[y - M]? = some p := ⟨_,List.getElem?_eq_getElem hj⟩
 have hS : predS g norm z s = p := by
  unfold predS
  rw [hN,hM,hy,List.getD_eq_getElem?_getD,hp];rfl
 obtain ⟨q1,q2,q3⟩ := cellX_of hp
 have hX : cellX g norm p = y := by rw [q3,← placesOf_len h hs,hM];omega
 have hlog : y.log2 = g - N := by rw [← hy];exact log2_div (by omega) (by omega) p4
 have hpos : 0 < 2 ^ N := Nat.pow_pos (by decide)
 have hdm := Nat.div_add_mod (z + 2 ^ g) (2 ^ N)
 rw [hy,Nat.mul_comm] at hdm
 have hyg : 2 ^ g ≤ y * 2 ^ N := by
  have e : 2 ^ g = 2 ^ (g - N) * 2 ^ N := by rw [← Nat.pow_add,Nat.sub_add_cancel p4]
  rw [e]
  refine Nat.mul_le_mul_right _ ?_
  rw [← hlog]
  exact (Nat.le_log2 (by omega)).1 (Nat.le_refl _)
 have hml := Nat.mod_lt (z + 2 ^ g) hpos
 unfold predV
 rw [hS,hN]
 unfold celP
 rw [hX,hlog,Nat.sub_sub_self p4]
 refine ⟨q1,rfl,?_,q2,hml⟩
 simp only
 omega
theorem low_cel {g s : Nat} {norm : List Int} (h : TblOk g norm) (hs : s < norm.length) (h0 : norm.getD s 0 ≠ 0) : (celP g norm (lowN g norm s)).1 = s ∧ lowN g norm s < 2 ^ g := by
 have hx : norm[s]? = some (norm.getD s 0) := by rw [List.getD_eq_getElem?_getD,List.getElem?_eq_getElem hs];rfl
 have hl := h.low _ (List.mem_of_getElem? hx)
 have hlen := placesOf_len h hs
 have hst : 0 < (placesOf g norm s).length := by rw [hlen];unfold stN;split <;> omega
 obtain ⟨p,hp⟩ : ∃ p,(placesOf g norm s)[0]? = some p := ⟨_,List.getElem?_eq_getElem hst⟩
 obtain ⟨q1,q2,-⟩ := cellX_of hp
 have : lowN g norm s = p := by unfold lowN;rw [List.getD_eq_getElem?_getD,hp];rfl
 rw [this]
 exact ⟨q1,q2⟩

def encG (g : Nat) (norm : List Int) : List Nat → Nat × Nat × List Bool
 | [] => (0,0,[])
 | s :: rest => if rest.length < 2 then (lowN g norm s,(encG g norm rest).1,(encG g norm rest).2.2)
  else (predS g norm (encG g norm rest).2.1 s,(encG g norm rest).1,(encG g norm rest).2.2 ++ bitsN (predV g norm (encG g norm rest).2.1 s) (predB g norm (encG g norm rest).2.1 s))
def symsOk (norm : List Int) (l : List Nat) : Prop := ∀ s ∈ l,s < norm.length ∧ norm.getD s 0 ≠ 0
theorem encG_lt {g : Nat} {norm : List Int} (h : TblOk g norm) : ∀ {l : List Nat},symsOk norm l → (encG g norm l).1 < 2 ^ g ∧ (encG g norm l).2.1 < 2 ^ g
 | [],_ => ⟨Nat.pow_pos (by decide),Nat.pow_pos (by decide)⟩
 | s :: rest,hl => by
  obtain ⟨i1,i2⟩ := encG_lt h (l := rest) (fun x hx => hl x (by simp [hx]))
  obtain ⟨s1,s2⟩ := hl s (by simp)
  unfold encG
  split
  ·exact ⟨(low_cel h s1 s2).2,i1⟩
  ·exact ⟨(pred_cel h s1 s2 i2).2.2.2.1,i1⟩
theorem tb_bits {v n : Nat} {R : List Bool} (h : v < 2 ^ n) : tb (R ++ bitsN v n) n = .ok (v,R) := by
 have hl := bitsN_len v n
 have e : (R ++ bitsN v n).length - n = R.length := by rw [List.length_append,hl];omega
 rw [tb_ok (by rw [List.length_append];omega),e,List.drop_left' rfl,List.take_left' rfl,valL_bitsN,Nat.mod_eq_of_lt h]
theorem flowG_encG {g : Nat} {norm : List Int} (h : TblOk g norm) : ∀ (l : List Nat) (oth : Nat) (out : List Int),symsOk norm l → (2 ≤ l.length → oth = (encG g norm l).2.1) →
  flowG (celP g norm) l.length (encG g norm l).2.2 (encG g norm l).1 oth out = .ok (out ++ l.map (fun (s : Nat) => (s : Int)))
 | [],oth,out,_,_ => by simp [flowG,encG]
 | s :: rest,oth,out,hl,ho => by
  have hr : symsOk norm rest := fun x hx => hl x (by simp [hx])
  obtain ⟨s1,s2⟩ := hl s (by simp)
  obtain ⟨i1,i2⟩ := encG_lt h hr
  rw [List.length_cons,flowG]
  by_cases h2 : 2 ≤ rest.length
  ·have ho := ho (by rw [List.length_cons];omega)
   have e : encG g norm (s :: rest) = (predS g norm (encG g norm rest).2.1 s,(encG g norm rest).1,(encG g norm rest).2.2 ++ bitsN (predV g norm (encG g norm rest).2.1 s) (predB g norm (encG g norm rest).2.1 s)) := by
    rw [encG,if_neg (by omega)]
   obtain ⟨c1,c2,c3,c4,c5⟩ := pred_cel h s1 s2 i2
   rw [e] at ho ⊢
   simp only at ho ⊢
   rw [if_pos h2,c2,tb_bits c5]
   simp only
   rw [c1,c3,ho,flowG_encG h rest _ _ hr (fun _ => rfl)]
   simp
  ·have e : encG g norm (s :: rest) = (lowN g norm s,(encG g norm rest).1,(encG g norm rest).2.2) := by
    rw [encG,if_pos (by omega)]
   rw [e]
   simp only
   rw [if_neg h2,(low_cel h s1 s2).1]
   by_cases h1 : rest = []
   ·subst h1
    simp [flowG,encG]
   ·have ho := ho (by
     have : 0 < rest.length := List.length_pos_iff.2 h1
     rw [List.length_cons];omega)
    rw [e] at ho
    simp only at ho
    rw [ho,flowG_encG h rest _ _ hr (fun hh => (h2 hh).elim)]
    simp

def flowB (g : Nat) (norm : List Int) (l : List Nat) : List Bool :=
 (encG g norm l).2.2 ++ (if 2 ≤ l.length then bitsN (encG g norm l).2.1 g else []) ++ (if 1 ≤ l.length then bitsN (encG g norm l).1 g else [])
def flowE (g : Nat) (norm : List Int) (l : List Nat) : List Int := packB (flowB g norm l ++ [true])
theorem flowP_flowB {g : Nat} {norm : List Int} (h : TblOk g norm) {l : List Nat} (hl : symsOk norm l) : flowP (celP g norm) g l.length (flowB g norm l) = .ok (l.map (fun (s : Nat) => (s : Int))) := by
 obtain ⟨i1,i2⟩ := encG_lt h hl
 have hm := flowG_encG h l (encG g norm l).2.1 [] hl (fun _ => rfl)
 unfold flowP flowB
 by_cases h1 : 1 ≤ l.length
 ·rw [if_pos (show 0 < l.length by omega),if_pos h1,tb_bits i1]
  simp only
  by_cases h2 : 2 ≤ l.length
  ·rw [if_pos (show 1 < l.length by omega),if_pos h2,tb_bits i2]
   simp only
   simpa using hm
  ·rw [if_neg (show ¬ 1 < l.length by omega),if_neg h2,List.append_nil]
   simp only
   have := flowG_encG h l 0 [] hl (fun hh => (h2 hh).elim)
   simpa using this
 ·have h0 : l = [] := List.eq_nil_of_length_eq_zero (by omega)
  subst h0
  simp [flowG,encG]
theorem mark_top {L : List Bool} : (packB (L ++ [true])).getD ((packB (L ++ [true])).length - 1) 0 ≠ 0 ∧ topB (packB (L ++ [true])) = L.length ∧ bwdL (packB (L ++ [true])) (topB (packB (L ++ [true]))) = L := by
 obtain ⟨k,hk,hb,hlen,hB⟩ := packB_bits (L ++ [true])
 obtain ⟨B,hBe⟩ : ∃ B,packB (L ++ [true]) = B := ⟨_,rfl⟩
 rw [hBe] at hb hlen hB ⊢
 rw [List.length_append,List.length_singleton] at hlen
 have hrow : ∀ j : Nat,(rowBits B)[j]? = (L ++ [true] ++ List.replicate k false)[j]? := fun j => by rw [hb]
 have htrue : (rowBits B)[L.length]? = some true := by rw [hrow];simp
 have hz : B.getD (B.length - 1) 0 ≠ 0 := by
  intro h0
  have hp : 0 < B.length := by omega
  obtain ⟨y,hy⟩ : ∃ y,B[B.length - 1]? = some y := ⟨_,List.getElem?_eq_getElem (by omega)⟩
  rw [List.getD_eq_getElem?_getD,hy] at h0
  have hy0 : y = 0 := h0
  subst hy0
  have hi : L.length = 8 * (B.length - 1) + (L.length - 8 * (B.length - 1)) := by omega
  have := rowBits_at hy (i := L.length - 8 * (B.length - 1)) (by omega)
  rw [← hi,htrue] at this
  have hz8 : ∀ i : Nat,i < 8 → (bitsN (0 : Int).toNat 8)[i]? = some false := by decide
  rw [hz8 _ (by omega)] at this
  cases this
 obtain ⟨t1,t2,t3⟩ := top_mark hB hz
 have ht : topB B = L.length := by
  rcases Nat.lt_trichotomy (topB B) L.length with hlt | heq | hgt
  ·have := t3 L.length hlt (by omega)
   rw [htrue] at this
   cases this
  ·exact heq
  ·rw [hrow,List.getElem?_append_right (by rw [List.length_append,List.length_singleton];omega),List.length_append,List.length_singleton] at t2
   have : topB B - (L.length + 1) < k := by omega
   rw [List.getElem?_replicate,if_pos this] at t2
   cases t2
 refine ⟨hz,ht,?_⟩
 unfold bwdL
 rw [ht,hb,List.append_assoc,List.take_left' rfl]
theorem flowD_flowE {g : Nat} {norm : List Int} (h : TblOk g norm) (hok : okN (g : Int) norm 256 9 = true) {l : List Nat} (hl : symsOk norm l) : flowD (g : Int) norm (flowE g norm l) l.length = .ok (l.map (fun (s : Nat) => (s : Int))) := by
 obtain ⟨m1,-,m3⟩ := mark_top (L := flowB g norm l)
 unfold flowD flowE
 rw [if_neg (by rw [hok];simp),if_neg m1,Int.toNat_natCast,m3]
 exact flowP_flowB h hl
end

end Go.Proofs.YtcmagccfagijlaaGreat
