/-
  Walks over package dict: Put on a valid dictionary. (Printed by mkGm.py.)
-/
import Derived.Test.YtcmagccfagijlaaGreatQ27
import Derived.Test.YtcmagccfagijlaaGreatQ1
import Derived.Deep.CutRange
namespace Go.Proofs.YtcmagccfagijlaaGreat
set_option linter.unusedVariables false
set_option linter.unusedSimpArgs false
set_option linter.unusedSectionVars false
set_option maxRecDepth 100000
open Go.RowKit

structure PM (w W : World) (CD : Array Value) (v : Value) (L : List Int) : Prop where
 b1 : Blk W w.heap.size CD 32
 b2 : Blk W (w.heap.size + 1) #[v] 22
 b3 : Blk W (w.heap.size + 1 + 1) #[.int .i64 0] 33
 own : OwnB W (w.heap.size + 3) v L
 kw : Keeps w W []
variable {w W W' : World} {CD : Array Value} {v v' : Value} {L L' : List Int}
theorem PM.call (m : PM w W CD v L) (k : Keeps W W' []) : PM w W' CD v L :=
 ⟨m.b1.keeps k (by simp),m.b2.keeps k (by simp),m.b3.keeps k (by simp),own_keeps m.own k,m.kw.then k⟩
theorem PM.size (m : PM w W CD v L) : w.heap.size + 3 ≤ W.heap.size := m.b3.lt
theorem PM.ge (m : PM w W CD v L) : ∀ g,v.ownBlock = some g → w.heap.size + 3 ≤ g ∧ g < W.heap.size := fun g hg => m.own.lt g hg
theorem PM.put {S : List Nat} (m : PM w W CD v L) (k : Keeps W W' S) (hS : ∀ j ∈ S,w.heap.size + 3 ≤ j) (o : OwnB W' (w.heap.size + 3) v' L') : PM w (W'.setCell ⟨w.heap.size + 1,0,none⟩ v') CD v' L' := by
 have hs := m.size
 have kb : Keeps W' (W'.setCell ⟨w.heap.size + 1,0,none⟩ v') [w.heap.size + 1] := (Keeps.refl _ _).setCell (.inr (by simp)) _
 refine ⟨(m.b1.keeps k ?_).keeps kb (by simp),?_,(m.b3.keeps k ?_).keeps kb (by simp),?_,(m.kw.trans k ?_).trans kb ?_⟩
 ·intro h;have := hS _ h;omega
 ·have h := (m.b2.keeps k (fun h => by have := hS _ h;omega)).set 0 v'
  simpa using h
 ·intro h;have := hS _ h;omega
 ·refine own_moved o (fun g hg => kb.block g (o.lt g hg).2 ?_)
  have := (o.lt g hg).1
  simp;omega
 ·intro j hj hl;have := hS _ hj;omega
 ·intro j hj hl;simp at hj;omega
theorem PM.err (m : PM w W CD v L) : PM w (W.setCell ⟨w.heap.size + 1 + 1,0,none⟩ (.int .i64 0)) CD v L := by
 have hs := m.size
 have kb : Keeps W (W.setCell ⟨w.heap.size + 1 + 1,0,none⟩ (.int .i64 0)) [w.heap.size + 1 + 1] := (Keeps.refl _ _).setCell (.inr (by simp)) _
 refine ⟨m.b1.keeps kb (by simp;omega),m.b2.keeps kb (by simp),?_,own_moved m.own (fun g hg => kb.block g (m.ge g hg).2 ?_),m.kw.trans kb (fun j hj hl => by simp at hj;omega)⟩
 ·have h := m.b3.set 0 (.int .i64 0)
  simpa using h
 ·have := (m.ge g hg).1
  simp;omega
theorem PM.app (m : PM w W CD v L) (g : W.grownBy W' v.ownBlock) : Keeps W W' (match v.ownBlock with | some g => [g] | none => []) ∧ (∀ j ∈ (match v.ownBlock with | some g => [g] | none => []),w.heap.size + 3 ≤ j) := by
 refine ⟨Keeps.of_grown g (fun k hk => by rw [hk];simp),fun j hj => ?_⟩
 split at hj
 ·rename_i x hx
  simp at hj
  subst hj
  exact (m.ge _ hx).1
 ·cases hj
theorem PM.other {q : Nat} {cs : Array Value} {T : TypeId} (m : PM w W CD v L) (hb : Blk W q cs T) (hT : T ≠ 5) : q ∉ (match v.ownBlock with | some g => [g] | none => []) := by
 intro h
 split at h
 ·rename_i x hx
  simp at h
  subst h
  refine own_ne m.own hb (fun cs' e => ?_) hx
  injection e with e1 e2
  exact hT e2
 ·cases h
theorem own_formM {base : Nat} (h : OwnB w base v L) : ∃ A M C,v = .slice A M C := by
 obtain ⟨A,C,e⟩ := own_form h
 exact ⟨A,_,C,e⟩
def CalmP (Q : Exit → Act → World → Prop) : Exit → Act → World → Prop
 | .panic _,_,_ => False
 | e,a,w => Q e a w
theorem wp_calmP {P : Program} {c : Code} {Q : Exit → Act → World → Prop} {a : Act} {w : World} (h : Code.wp P c (CalmP Q) a w) : Code.wp P c Q a w :=
 wp_mono h fun e _ _ hq => by cases e <;> first | exact hq | exact hq.elim
theorem calmP_normal {Q : Exit → Act → World → Prop} {a : Act} {w : World} (h : Q .normal a w) : CalmP Q .normal a w := h

def putL (LB E2 E3 E1 : List Int) : Nat → List Int
 | 0 => LB
 | 1 => LB ++ E2
 | 2 => LB ++ E2 ++ E3
 | _ + 3 => LB ++ E2 ++ E3 ++ E1
theorem u64_nat {n : Nat} (h : n ≤ 1000000000) : IntKind.u64.wrap (n : Int) = (n : Int) := by
 simp [IntKind.wrap,IntKind.signed,IntKind.bits];omega
theorem putv_ok (n : Nat) (u : Value) (l : List Int) (w : World) (hv : RdI .u8 w u l) (hl : l.length ≤ 500000) (hn : n ≤ 1000000000) :
  Calls Tryz.prog 67 #[u,.int .u64 (n : Int)] w fun e w' => ∃ v',e = .returned (.tuple #[v',.int .i64 0]) ∧ OwnB w' w.heap.size v' (l ++ varI n) ∧ Keeps w w' [] :=
 (putVarint_any u l n w hv hl (by omega)).mono fun e w' h => by
  unfold PutEnd at h
  rw [if_neg (by omega)] at h
  exact h
def PutOk (w : World) (B : List Int) (e : Ending) (w' : World) : Prop := ∃ v',e = .returned (.tuple #[v',.int .i64 0]) ∧ OwnB w' w.heap.size v' B ∧ Keeps w w' []

theorem vD_lenP {D : DD} (h : vD D = true) : D.T.length ≤ 256 ∧ D.L1.length ≤ 44 ∧ D.L2.length ≤ 44 ∧ D.L3.length ≤ 44 := by
 by_cases hid : D.id = 0
 ·obtain ⟨h1,⟨-,h2⟩,⟨-,h3⟩,⟨-,h4⟩,-⟩ := (vD_raw hid).1 h
  rw [h1,h2,h3,h4];simp
 ·obtain ⟨h1,-,h2,h3,h4,-⟩ := (vD_full hid).1 h
  have a1 := (treeL_iff.1 h1).1
  obtain ⟨-,-,-,a2,-⟩ := tblB_iff.1 h2
  obtain ⟨-,-,-,a3,-⟩ := tblB_iff.1 h3
  obtain ⟨-,-,-,a4,-⟩ := tblB_iff.1 h4
  omega
theorem dput_idle (p q : Addr) (w : World) :
  CallsD Tryz.prog 61 #[.pointer (some p),.pointer (some q)] .returning w fun e u' w' => e = .returned (.tuple #[]) ∧ u' = .returning ∧ w' = w := by
 refine callsD_of_wpS Tryz.func61 rfl fun c₀ cs hu => ?_
 simp only [Tryz.ntmps61,List.size_toArray,List.length_cons,List.length_nil,Nat.reduceAdd,Nat.reduceSub,Array.replicate_succ,Array.replicate_zero,List.push_toArray,List.append_toArray,List.nil_append,List.cons_append]
 apply wpS_seq
 apply wpS_region
 simp [wpOpsS,go_sem,recoverD,hu,Exit.thenS]
 refine wpS_of_wp ?_
 have HU := Lib.hid hu
 clear hu
 go_wp2
 refine ⟨rfl,.returning,?_,.tuple #[],by simp [results,Tryz.results61],rfl,rfl,rfl⟩
 have hu := HU.out
 cases c₀
 simp_all

set_option maxHeartbeats 8000000 in
theorem put_raw (id g1 g2 g3 a b c : Int) (t n1 n2 n3 x : Value) (T L1 L2 L3 X : List Int) (w : World) (ht : RdI .i64 w t T) (h1 : RdI .i64 w n1 L1) (h2 : RdI .i64 w n2 L2) (h3 : RdI .i64 w n3 L3) (hx : RdI .u8 w x X) (hX : X.length ≤ 100000) (hxb : ∀ y ∈ X,0 ≤ y ∧ y ≤ 255) (hr : 0 ≤ id ∧ id < 4294967296) (hv : vD ⟨id,T,g1,L1,g2,L2,g3,L3,a,b,c,X⟩ = true) (hb1 : ∀ x ∈ L1,-9223372036854775808 ≤ x ∧ x ≤ 9223372036854775807) (hb2 : ∀ x ∈ L2,-9223372036854775808 ≤ x ∧ x ≤ 9223372036854775807) (hb3 : ∀ x ∈ L3,-9223372036854775808 ≤ x ∧ x ≤ 9223372036854775807) (hid : id = 0) :
  Calls Tryz.prog 28 #[.agg (dictC id t g1 n1 g2 n2 g3 n3 a b c x)] w (PutOk w X) := by
 have HC := Lib.hid (fun w1 (k : Keeps w w1 []) => cloneb_any x X w1 (hx.keeps k) (by omega))
 have hmf : ∀ (fn : Fn) (first cap : Array Value) (w : World),(Instr.makeFunc fn first cap).run Tryz.prog w = .ok (.func fn first cap) w := fun _ _ _ _ => rfl
 obtain ⟨hl0,hl1,hl2,hl3⟩ := vD_lenP hv
 simp only at hl0 hl1 hl2 hl3
 obtain ⟨pa,pm,pc,rfl,ln0,-⟩ := ht.form
 obtain ⟨p1a,p1m,p1c,rfl,ln1,-⟩ := h1.form
 obtain ⟨p2a,p2m,p2c,rfl,ln2,-⟩ := h2.form
 obtain ⟨p3a,p3m,p3c,rfl,ln3,-⟩ := h3.form
 obtain ⟨pxa,pxm,pxc,rfl,lnx,-⟩ := hx.form
 have HV := Lib.hid (fun w1 (k : Keeps w w1 []) => valid_yes id g1 g2 g3 a b c _ _ _ _ _ T L1 L2 L3 X w1 (ht.keeps k) (h1.keeps k) (h2.keeps k) (h3.keeps k) (hx.keeps k) (by omega) (by omega) (by omega) (by omega) (by omega) hxb hb1 hb2 hb3 hv)
 have M0 : PM w (((w.alloc (.cells (dictC id (.slice pa pm pc) g1 (.slice p1a p1m p1c) g2 (.slice p2a p2m p2c) g3 (.slice p3a p3m p3c) a b c (.slice pxa pxm pxc)) 32)).alloc (.cells #[nilV] 22)).alloc (.cells #[.int .i64 0] 33)) (dictC id (.slice pa pm pc) g1 (.slice p1a p1m p1c) g2 (.slice p2a p2m p2c) g3 (.slice p3a p3m p3c) a b c (.slice pxa pxm pxc)) nilV [] := by
  have e1 := ((Blk.new w (dictC id (.slice pa pm pc) g1 (.slice p1a p1m p1c) g2 (.slice p2a p2m p2c) g3 (.slice p3a p3m p3c) a b c (.slice pxa pxm pxc)) 32).alloc (.cells #[nilV] 22)).alloc (.cells #[.int .i64 0] 33)
  have e2 := (Blk.new (w.alloc (.cells (dictC id (.slice pa pm pc) g1 (.slice p1a p1m p1c) g2 (.slice p2a p2m p2c) g3 (.slice p3a p3m p3c) a b c (.slice pxa pxm pxc)) 32)) #[nilV] 22).alloc (.cells #[.int .i64 0] 33)
  have e3 := Blk.new ((w.alloc (.cells (dictC id (.slice pa pm pc) g1 (.slice p1a p1m p1c) g2 (.slice p2a p2m p2c) g3 (.slice p3a p3m p3c) a b c (.slice pxa pxm pxc)) 32)).alloc (.cells #[nilV] 22)) #[.int .i64 0] 33
  simp only [World.size_alloc] at e2 e3
  exact ⟨e1,e2,e3,World.ownsRow_nil _ _ _ _,(((Keeps.refl w []).alloc _).alloc _).alloc _⟩
 have hid1 : (id == 0) = true := by simpa using hid
 clear hid ht h1 h2 h3 hx hX hxb hr hv hb1 hb2 hb3 hl0 hl1 hl2 hl3 ln0 ln1 ln2 ln3 lnx
 go_enter_defers Tryz.func28,Tryz.ntmps28
 go_wp2_with fail
 generalize hW0 : (((w.alloc (.cells (dictC id (.slice pa pm pc) g1 (.slice p1a p1m p1c) g2 (.slice p2a p2m p2c) g3 (.slice p3a p3m p3c) a b c (.slice pxa pxm pxc)) 32)).alloc (.cells #[nilV] 22)).alloc (.cells #[.int .i64 0] 33)) = W0 at *
 clear hW0
 have H0 := Lib.hid M0
 clear M0
 obtain ⟨q0,q1,q2,q3,q4,q5,q6,q7,q8,q9,qa,qb⟩ := dict_cells H0.out.b1
 obtain ⟨c2,f2⟩ := H0.out.b2.one
 obtain ⟨c3,f3⟩ := H0.out.b3.one
 go_wp2_with fail
 clear q0 q1 q2 q3 q4 q5 q6 q7 q8 q9 qa qb c2 f2 c3 f3
 refine (HV.out _ H0.out.kw).mono ?_
 rintro e w1 ⟨rfl,k1⟩
 have H1 := Lib.hid (H0.out.call k1)
 clear k1 H0 HV
 go_wp2_with fail
 refine (dmust_yes rfl 2 _).mono ?_
 rintro e w1' ⟨rfl,rfl⟩
 obtain ⟨q0,q1,q2,q3,q4,q5,q6,q7,q8,q9,qa,qb⟩ := dict_cells H1.out.b1
 obtain ⟨c2,f2⟩ := H1.out.b2.one
 obtain ⟨c3,f3⟩ := H1.out.b3.one
 go_wp2_with fail
 clear q0 q1 q2 q3 q4 q5 q6 q7 q8 q9 qa qb c2 f2 c3 f3
 refine (HC.out _ H1.out.kw).mono ?_
 rintro e w2 ⟨v2,rfl,own2,k2⟩
 obtain ⟨A2,C2,rfl⟩ := own_form own2
 have hs := H1.out.size
 have H2 := Lib.hid (H1.out.call k2)
 have H3 := Lib.hid (H2.out.put (Keeps.refl _ []) (by simp) (own_base own2 hs))
 clear k2 own2 H1 hs
 obtain ⟨q0,q1,q2,q3,q4,q5,q6,q7,q8,q9,qa,qb⟩ := dict_cells H2.out.b1
 obtain ⟨c2,f2⟩ := H2.out.b2.one
 obtain ⟨c3,f3⟩ := H2.out.b3.one
 obtain ⟨c3',f3'⟩ := H3.out.b3.one
 clear c3 f3 q0 q1 q2 q3 q4 q5 q6 q7 q8 q9 qa qb
 have H9 := Lib.hid (H3.out.err)
 go_wp2_with fail
 refine leaves_cons (f := 61) (args := #[.pointer (some ⟨w.heap.size + 1,0,none⟩),.pointer (some ⟨w.heap.size + 1 + 1,0,none⟩)]) (by simp) (by simp [go_sem]) ?_
 refine (dput_idle _ _ _).mono ?_
 rintro e u' w9 ⟨rfl,rfl,rfl⟩
 obtain ⟨c2,-⟩ := H9.out.b2.one
 obtain ⟨c3,-⟩ := H9.out.b3.one
 exact ⟨.tuple #[.slice A2 X.length C2,.int .i64 0],by simp only [results,Tryz.results28];go_simp,_,rfl,own_base H9.out.own (by omega),H9.out.kw⟩

theorem desc_enc {g : Int} {L : List Int} {sy lg : Int} (hs : sy ≤ 256) (hlg : lg ≤ 9) (h : tblB g L sy lg = true) (nv : Value) (w : World) (hv : RdI .i64 w nv L) (hb : ∀ x ∈ L,-9223372036854775808 ≤ x ∧ x ≤ 9223372036854775807) :
  Calls Tryz.prog 66 #[.agg #[.int .i64 g,nv]] w fun e w' => ∃ v',e = .returned (.tuple #[v',.int .i64 0]) ∧ OwnB w' w.heap.size v' (descE g.toNat L) ∧ Keeps w w' [] := by
 obtain ⟨a1,a2,a3,a4,a5,a6,a7⟩ := tblB_iff.1 h
 obtain ⟨G,rfl⟩ := Int.eq_ofNat_of_zero_le (show 0 ≤ g by omega)
 have ht : TblOk G L := ⟨by omega,a3,by omega,a6,by rw [a7];simp⟩
 exact dencode_ok G nv L w hv (okN_of ht a5) (by omega) ht a5 hb

set_option maxHeartbeats 8000000 in
theorem put_full (id g1 g2 g3 a b c : Int) (t n1 n2 n3 x : Value) (T L1 L2 L3 X : List Int) (w : World) (ht : RdI .i64 w t T) (h1 : RdI .i64 w n1 L1) (h2 : RdI .i64 w n2 L2) (h3 : RdI .i64 w n3 L3) (hx : RdI .u8 w x X) (hX : X.length ≤ 100000) (hxb : ∀ y ∈ X,0 ≤ y ∧ y ≤ 255) (hr : 0 ≤ id ∧ id < 4294967296) (hv : vD ⟨id,T,g1,L1,g2,L2,g3,L3,a,b,c,X⟩ = true) (hb1 : ∀ x ∈ L1,-9223372036854775808 ≤ x ∧ x ≤ 9223372036854775807) (hb2 : ∀ x ∈ L2,-9223372036854775808 ≤ x ∧ x ≤ 9223372036854775807) (hb3 : ∀ x ∈ L3,-9223372036854775808 ≤ x ∧ x ≤ 9223372036854775807) (hid : id ≠ 0) :
  Calls Tryz.prog 28 #[.agg (dictC id t g1 n1 g2 n2 g3 n3 a b c x)] w (PutOk w (putF ⟨id,T,g1,L1,g2,L2,g3,L3,a,b,c,X⟩)) := by
 obtain ⟨i0,hi,hz0,hz1,hz2⟩ := info_parts Tryz.infoByte
 have kc := fun (w : World) (C : Array Value) (n c : Nat) => Lib.run_convert_bytes_const (P := Tryz.prog) w 22 5 C n c Tryz.underlying22 Tryz.underlying5
 obtain ⟨vt,vl,v2,v3,v1,v8,va,vb,vc⟩ := (vD_full hid).1 hv
 simp only at vt vl v2 v3 v1 v8 va vb vc
 have HPW := Lib.hid (fun W u (h : RdI .u8 W u [80,77,84,68]) => putWord_any u [80,77,84,68] id W h (by simp) hr.1 hr.2)
 have HEN := Lib.hid (fun W (k : Keeps w W []) => encode_yes t T W (ht.keeps k) (by have := (treeL_iff.1 vt).1;omega) vt)
 have HE2 := Lib.hid (fun W (k : Keeps w W []) => desc_enc (by decide) (by decide) v2 n2 W (h2.keeps k) hb2)
 have HE3 := Lib.hid (fun W (k : Keeps w W []) => desc_enc (by decide) (by decide) v3 n3 W (h3.keeps k) hb3)
 have HE1 := Lib.hid (fun W (k : Keeps w W []) => desc_enc (by decide) (by decide) v1 n1 W (h1.keeps k) hb1)
 obtain ⟨an,rfl⟩ := Int.eq_ofNat_of_zero_le (show 0 ≤ a by omega)
 obtain ⟨bn,rfl⟩ := Int.eq_ofNat_of_zero_le (show 0 ≤ b by omega)
 obtain ⟨cn,rfl⟩ := Int.eq_ofNat_of_zero_le (show 0 ≤ c by omega)
 have hwa := u64_nat (n := an) (by omega)
 have hwb := u64_nat (n := bn) (by omega)
 have hwc := u64_nat (n := cn) (by omega)
 have HNL : Hid (an ≤ 1000000000 ∧ bn ≤ 1000000000 ∧ cn ≤ 1000000000 ∧ X.length ≤ 100000) := Lib.hid (by omega)
 have HXR := Lib.hid (fun W (k : Keeps w W []) => hx.keeps k)
 have hEL := encT_len vt
 have hDL2 : (descE g2.toNat L2).length ≤ 700 := by obtain ⟨a1,a2,a3,a4,-⟩ := tblB_iff.1 v2;exact descE_lenD (by omega) (by omega)
 have hDL3 : (descE g3.toNat L3).length ≤ 700 := by obtain ⟨a1,a2,a3,a4,-⟩ := tblB_iff.1 v3;exact descE_lenD (by omega) (by omega)
 have hDL1 : (descE g1.toNat L1).length ≤ 700 := by obtain ⟨a1,a2,a3,a4,-⟩ := tblB_iff.1 v1;exact descE_lenD (by omega) (by omega)
 have hLL : ([80,77,84,68] ++ wordB id).length = 8 := rfl
 have hFIN : putF ⟨id,T,g1,L1,g2,L2,g3,L3,(an : Int),(bn : Int),(cn : Int),X⟩ = [80,77,84,68] ++ wordB id ++ encT T ++ descE g2.toNat L2 ++ descE g3.toNat L3 ++ descE g1.toNat L1 ++ varI an ++ varI bn ++ varI cn ++ varI X.length ++ X := by
  unfold putF
  simp only [List.append_assoc,Int.toNat_natCast]
 rw [hFIN]
 clear hFIN
 obtain ⟨LA,hLA⟩ : ∃ LA,[80,77,84,68] ++ wordB id = LA := ⟨_,rfl⟩
 obtain ⟨EB,hEB⟩ : ∃ EB,encT T = EB := ⟨_,rfl⟩
 obtain ⟨E2,hE2⟩ : ∃ EB,descE g2.toNat L2 = EB := ⟨_,rfl⟩
 obtain ⟨E3,hE3⟩ : ∃ EB,descE g3.toNat L3 = EB := ⟨_,rfl⟩
 obtain ⟨E1,hE1⟩ : ∃ EB,descE g1.toNat L1 = EB := ⟨_,rfl⟩
 rw [hLA] at HPW hLL ⊢
 rw [hEB] at HEN hEL ⊢
 rw [hE2] at HE2 hDL2 ⊢
 rw [hE3] at HE3 hDL3 ⊢
 rw [hE1] at HE1 hDL1 ⊢
 have HLA : Hid (LA.length = 8 ∧ EB.length ≤ 200 ∧ E2.length ≤ 700 ∧ E3.length ≤ 700 ∧ E1.length ≤ 700) := Lib.hid ⟨hLL,hEL,hDL2,hDL3,hDL1⟩
 have HLL : Hid (((LA ++ EB).length + E2.length ≤ 1000000 ∧ (LA ++ EB ++ E2).length + E3.length ≤ 1000000 ∧ (LA ++ EB ++ E2 ++ E3).length + E1.length ≤ 1000000) ∧ (LA ++ EB ++ E2 ++ E3 ++ E1).length ≤ 3000) := Lib.hid (by simp only [List.length_append];omega)
 clear hLA hEB hE2 hE3 hE1 hLL hEL hDL2 hDL3 hDL1
 have hmf : ∀ (fn : Fn) (first cap : Array Value) (w : World),(Instr.makeFunc fn first cap).run Tryz.prog w = .ok (.func fn first cap) w := fun _ _ _ _ => rfl
 obtain ⟨hl0,hl1,hl2,hl3⟩ := vD_lenP hv
 simp only at hl0 hl1 hl2 hl3
 obtain ⟨pa,pm,pc,rfl,ln0,-⟩ := ht.form
 obtain ⟨p1a,p1m,p1c,rfl,ln1,-⟩ := h1.form
 obtain ⟨p2a,p2m,p2c,rfl,ln2,-⟩ := h2.form
 obtain ⟨p3a,p3m,p3c,rfl,ln3,-⟩ := h3.form
 obtain ⟨pxa,pxm,pxc,rfl,lnx,-⟩ := hx.form
 have HV := Lib.hid (fun w1 (k : Keeps w w1 []) => valid_yes id g1 g2 g3 (an : Int) (bn : Int) (cn : Int) _ _ _ _ _ T L1 L2 L3 X w1 (ht.keeps k) (h1.keeps k) (h2.keeps k) (h3.keeps k) (hx.keeps k) (by omega) (by omega) (by omega) (by omega) (by omega) hxb hb1 hb2 hb3 hv)
 have M0 : PM w (((w.alloc (.cells (dictC id (.slice pa pm pc) g1 (.slice p1a p1m p1c) g2 (.slice p2a p2m p2c) g3 (.slice p3a p3m p3c) (an : Int) (bn : Int) (cn : Int) (.slice pxa pxm pxc)) 32)).alloc (.cells #[nilV] 22)).alloc (.cells #[.int .i64 0] 33)) (dictC id (.slice pa pm pc) g1 (.slice p1a p1m p1c) g2 (.slice p2a p2m p2c) g3 (.slice p3a p3m p3c) (an : Int) (bn : Int) (cn : Int) (.slice pxa pxm pxc)) nilV [] := by
  have e1 := ((Blk.new w (dictC id (.slice pa pm pc) g1 (.slice p1a p1m p1c) g2 (.slice p2a p2m p2c) g3 (.slice p3a p3m p3c) (an : Int) (bn : Int) (cn : Int) (.slice pxa pxm pxc)) 32).alloc (.cells #[nilV] 22)).alloc (.cells #[.int .i64 0] 33)
  have e2 := (Blk.new (w.alloc (.cells (dictC id (.slice pa pm pc) g1 (.slice p1a p1m p1c) g2 (.slice p2a p2m p2c) g3 (.slice p3a p3m p3c) (an : Int) (bn : Int) (cn : Int) (.slice pxa pxm pxc)) 32)) #[nilV] 22).alloc (.cells #[.int .i64 0] 33)
  have e3 := Blk.new ((w.alloc (.cells (dictC id (.slice pa pm pc) g1 (.slice p1a p1m p1c) g2 (.slice p2a p2m p2c) g3 (.slice p3a p3m p3c) (an : Int) (bn : Int) (cn : Int) (.slice pxa pxm pxc)) 32)).alloc (.cells #[nilV] 22)) #[.int .i64 0] 33
  simp only [World.size_alloc] at e2 e3
  exact ⟨e1,e2,e3,World.ownsRow_nil _ _ _ _,(((Keeps.refl w []).alloc _).alloc _).alloc _⟩
 have hwx := u64_nat (n := pxm) (by omega)
 have HPX := Lib.hid lnx
 have hid1 : (id == 0) = false := by simpa using hid
 clear hid ht h1 h2 h3 hx hX hxb hr hv hb1 hb2 hb3 hl0 hl1 hl2 hl3 ln0 ln1 ln2 ln3 lnx vt vl v2 v3 v1 v8 va vb vc
 go_enter_defers Tryz.func28,Tryz.ntmps28
 go_wp2_with fail
 generalize hW0 : (((w.alloc (.cells (dictC id (.slice pa pm pc) g1 (.slice p1a p1m p1c) g2 (.slice p2a p2m p2c) g3 (.slice p3a p3m p3c) (an : Int) (bn : Int) (cn : Int) (.slice pxa pxm pxc)) 32)).alloc (.cells #[nilV] 22)).alloc (.cells #[.int .i64 0] 33)) = W0 at *
 clear hW0
 have H0 := Lib.hid M0
 clear M0
 obtain ⟨q0,q1,q2,q3,q4,q5,q6,q7,q8,q9,qa,qb⟩ := dict_cells H0.out.b1
 obtain ⟨c2,f2⟩ := H0.out.b2.one
 obtain ⟨c3,f3⟩ := H0.out.b3.one
 go_wp2_with fail
 clear q0 q1 q2 q3 q4 q5 q6 q7 q8 q9 qa qb c2 f2 c3 f3
 refine (HV.out _ H0.out.kw).mono ?_
 rintro e w1 ⟨rfl,k1⟩
 have H1 := Lib.hid (H0.out.call k1)
 clear k1 H0 HV
 go_wp2_with fail
 refine (dmust_yes rfl 2 _).mono ?_
 rintro e w1' ⟨rfl,rfl⟩
 have z0 : w1.cell? ⟨w.heap.size,0,none⟩ = some (.int .u32 id) := H1.out.b1.cell 0
 have HL1 := Lib.hid (H1.out.call ((Keeps.refl w1 []).alloc (.cells #[.int .u8 80,.int .u8 77,.int .u8 84,.int .u8 68] 5 (4,5))))
 have RL : Hid (RdI .u8 (w1.alloc (.cells #[.int .u8 80,.int .u8 77,.int .u8 84,.int .u8 68] 5 (4,5))) (.slice (some ⟨w1.heap.size,0,none⟩) 4 4) [80,77,84,68]) := Lib.hid (RdI.lit w1 _ (by simp) rfl (by simp))
 obtain ⟨q0,q1,q2,q3,q4,q5,q6,q7,q8,q9,qa,qb⟩ := dict_cells HL1.out.b1
 obtain ⟨c2,f2⟩ := HL1.out.b2.one
 obtain ⟨c3,f3⟩ := HL1.out.b3.one
 go_wp2_with fail
 clear q0 q1 q2 q3 q4 q5 q6 q7 q8 q9 qa qb c2 f2 c3 f3
 refine (HPW.out _ _ RL.out).mono ?_
 rintro e w2 ⟨v2,rfl,own2,k2⟩
 obtain ⟨A2,M2,C2,rfl⟩ := own_formM own2
 have hs := HL1.out.size
 have H2 := Lib.hid (HL1.out.call k2)
 have H3 := Lib.hid (H2.out.put (Keeps.refl _ []) (by simp) (own_base own2 hs))
 clear k2 own2 H1 HL1 RL HPW hs z0
 obtain ⟨q0,q1,q2,q3,q4,q5,q6,q7,q8,q9,qa,qb⟩ := dict_cells H2.out.b1
 obtain ⟨c2,f2⟩ := H2.out.b2.one
 obtain ⟨c3,f3⟩ := H2.out.b3.one
 go_wp2_with fail
 generalize hW3 : w2.setCell ⟨w.heap.size + 1,0,none⟩ (.slice A2 M2 C2) = W3 at *
 clear hW3 c2 f2 c3 f3 q0 q1 q2 q3 q4 q5 q6 q7 q8 q9 qa qb H2
 have HLB : Hid ((LA ++ EB).length ≤ 300) := Lib.hid (by have := HLA.out;rw [List.length_append];omega)
 go_cut [] from 23 to 31 (fun wx => ∃ A M C,Hid (PM w wx (dictC id (.slice pa pm pc) g1 (.slice p1a p1m p1c) g2 (.slice p2a p2m p2c) g3 (.slice p3a p3m p3c) (an : Int) (bn : Int) (cn : Int) (.slice pxa pxm pxc)) (.slice A M C) (LA ++ EB)))
 case first =>
  have HD := Lib.hid (H3.out.call (Keeps.refl W3 []).drew)
  obtain ⟨c2,f2⟩ := HD.out.b2.one
  refine wp_calmP ?_
  refine wp_region_held_drew (S := (fun w' => Blk w' w.heap.size (dictC id (.slice pa pm pc) g1 (.slice p1a p1m p1c) g2 (.slice p2a p2m p2c) g3 (.slice p3a p3m p3c) (an : Int) (bn : Int) (cn : Int) (.slice pxa pxm pxc)) 32)) (by kernel_rfl) HD.out.b1 (fun hHeld => ?_)
  refine takeM 1 rfl (by intro w9 hSw;clear hSw;go_simp;(try with_reducible rfl)) ?_
  try simp only [Act.put,stA,stZ,stS]
  refine takeM 2 rfl (by intro w9 hSw;clear hSw;go_simp;(try with_reducible rfl)) ?_
  try simp only [Act.put,stA,stZ,stS]
  refine takeM 3 rfl (by intro w9 hSw;obtain ⟨q0,q1,q2,q3,q4,q5,q6,q7,q8,q9,qa,qb⟩ := dict_cells hSw;clear hSw;go_simp;(try with_reducible rfl)) ?_
  try simp only [Act.put,stA,stZ,stS]
  refine call2L (i := 0) (j := 4) rfl rfl (by kernel_rfl) (fun Kont hK => ?_) (fun Kont hK => ?_)
  ·go_simp
   refine hK.out _ _ hHeld (fun hHeld => ?_)
   clear hK Kont
   refine callL (i := 4) rfl (by kernel_rfl) (fun Kont hK => ?_)
   go_simp
   refine (HEN.out _ HD.out.kw).mono ?_
   rintro e w4 ⟨v4,rfl,rd4,-,k4⟩
   obtain ⟨a4,n4,cc4,rfl,-,-⟩ := rd4.form
   have RD4 := Lib.hid rd4
   clear rd4
   have H4 := Lib.hid (HD.out.call k4)
   obtain ⟨c4,f4⟩ := H4.out.b2.one
   go_wp2_with fail
   refine hK.out _ _ (hHeld.keeps k4 (by simp)) (fun hHeld => ?_)
   clear hK Kont
   refine takeM 5 rfl (by intro w9 hSw;clear hSw;go_simp;(try with_reducible rfl)) ?_
   try simp only [Act.put,stA,stZ,stS]
   refine takeM 6 rfl (by intro w9 hSw;clear hSw;go_simp;(try with_reducible rfl)) ?_
   try simp only [Act.put,stA,stZ,stS]
   refine callL (i := 7) rfl (by kernel_rfl) (fun Kont hK => ?_)
   go_simp
   refine (gotb_yes _ _ _ _).mono ?_
   rintro e w5 ⟨rfl,rfl⟩
   go_wp2_with fail
   refine hK.out _ _ hHeld (fun hHeld => ?_)
   clear hK Kont
   refine callL (i := 8) rfl (by kernel_rfl) (fun Kont hK => ?_)
   refine step_appendI rfl _ _ 22 rfl (w.heap.size + 3) 5 i0 (.int .u8 0) 1 Tryz.underlying22 hi hz0 hz1 hz2 rfl (.slice A2 M2 C2) LA.length _ rfl H4.out.own _ rfl .u8 EB RD4.out (by have := HLA.out;unfold maxLen;omega) (by have := HLA.out;omega) H4.out.size ?_
   intro v8 w8 own8 g8
   have O8 : OwnB w8 (w.heap.size + 3) v8 (LA ++ EB) := ownB_app own8
   obtain ⟨A8,M8,C8,rfl⟩ := own_formM O8
   obtain ⟨k8,hS8⟩ := H4.out.app g8
   have B8 := H4.out.b2.keeps k8 (fun h => by have := hS8 _ h;omega)
   obtain ⟨c8,f8⟩ := B8.one
   refine hK.out _ _ (hHeld.keeps k8 (fun h => by have := hS8 _ h;omega)) (fun hHeld => ?_)
   clear hK Kont
   have H9 := Lib.hid (H4.out.put k8 hS8 O8)
   refine callL (i := 9) rfl (by kernel_rfl) (fun Kont hK => ?_)
   go_simp
   refine hK.out _ _ (hHeld.setOther (by simp) _) (fun hHeld => ?_)
   clear hK Kont
   refine wpAnyH_done (by kernel_rfl) ?_ _
   refine calmP_normal ?_
   clear own8 g8 O8 k8 hS8 B8 c8 f8 c4 f4
   go_wp2_with fail
   go_meet
   exact ⟨_,_,_,H9⟩
  ·go_simp
   refine (HEN.out _ HD.out.kw).mono ?_
   rintro e w4 ⟨v4,rfl,rd4,-,k4⟩
   obtain ⟨a4,n4,cc4,rfl,-,-⟩ := rd4.form
   have RD4 := Lib.hid rd4
   clear rd4
   have H4 := Lib.hid (HD.out.call k4)
   obtain ⟨c4,f4⟩ := H4.out.b2.one
   go_wp2_with fail
   refine hK.out _ _ (hHeld.keeps k4 (by simp)) (fun hHeld => ?_)
   clear hK Kont
   refine takeM 5 rfl (by intro w9 hSw;clear hSw;go_simp;(try with_reducible rfl)) ?_
   try simp only [Act.put,stA,stZ,stS]
   refine takeM 6 rfl (by intro w9 hSw;clear hSw;go_simp;(try with_reducible rfl)) ?_
   try simp only [Act.put,stA,stZ,stS]
   refine call2L (i := 0) (j := 7) rfl rfl (by kernel_rfl) (fun Kont hK => ?_) (fun Kont hK => ?_)
   ·go_simp
    refine hK.out _ _ hHeld (fun hHeld => ?_)
    clear hK Kont
    refine callL (i := 7) rfl (by kernel_rfl) (fun Kont hK => ?_)
    go_simp
    refine (gotb_yes _ _ _ _).mono ?_
    rintro e w5 ⟨rfl,rfl⟩
    go_wp2_with fail
    refine hK.out _ _ hHeld (fun hHeld => ?_)
    clear hK Kont
    refine callL (i := 8) rfl (by kernel_rfl) (fun Kont hK => ?_)
    refine step_appendI rfl _ _ 22 rfl (w.heap.size + 3) 5 i0 (.int .u8 0) 1 Tryz.underlying22 hi hz0 hz1 hz2 rfl (.slice A2 M2 C2) LA.length _ rfl H4.out.own _ rfl .u8 EB RD4.out (by have := HLA.out;unfold maxLen;omega) (by have := HLA.out;omega) H4.out.size ?_
    intro v8 w8 own8 g8
    have O8 : OwnB w8 (w.heap.size + 3) v8 (LA ++ EB) := ownB_app own8
    obtain ⟨A8,M8,C8,rfl⟩ := own_formM O8
    obtain ⟨k8,hS8⟩ := H4.out.app g8
    have B8 := H4.out.b2.keeps k8 (fun h => by have := hS8 _ h;omega)
    obtain ⟨c8,f8⟩ := B8.one
    refine hK.out _ _ (hHeld.keeps k8 (fun h => by have := hS8 _ h;omega)) (fun hHeld => ?_)
    clear hK Kont
    have H9 := Lib.hid (H4.out.put k8 hS8 O8)
    refine callL (i := 9) rfl (by kernel_rfl) (fun Kont hK => ?_)
    go_simp
    refine hK.out _ _ (hHeld.setOther (by simp) _) (fun hHeld => ?_)
    clear hK Kont
    refine wpAnyH_done (by kernel_rfl) ?_ _
    refine calmP_normal ?_
    clear own8 g8 O8 k8 hS8 B8 c8 f8 c4 f4
    go_wp2_with fail
    go_meet
    exact ⟨_,_,_,H9⟩
   ·go_simp
    refine (gotb_yes _ _ _ _).mono ?_
    rintro e w5 ⟨rfl,rfl⟩
    go_wp2_with fail
    refine hK.out _ _ hHeld (fun hHeld => ?_)
    clear hK Kont
    refine callL (i := 0) rfl (by kernel_rfl) (fun Kont hK => ?_)
    go_simp
    refine hK.out _ _ hHeld (fun hHeld => ?_)
    clear hK Kont
    refine callL (i := 8) rfl (by kernel_rfl) (fun Kont hK => ?_)
    refine step_appendI rfl _ _ 22 rfl (w.heap.size + 3) 5 i0 (.int .u8 0) 1 Tryz.underlying22 hi hz0 hz1 hz2 rfl (.slice A2 M2 C2) LA.length _ rfl H4.out.own _ rfl .u8 EB RD4.out (by have := HLA.out;unfold maxLen;omega) (by have := HLA.out;omega) H4.out.size ?_
    intro v8 w8 own8 g8
    have O8 : OwnB w8 (w.heap.size + 3) v8 (LA ++ EB) := ownB_app own8
    obtain ⟨A8,M8,C8,rfl⟩ := own_formM O8
    obtain ⟨k8,hS8⟩ := H4.out.app g8
    have B8 := H4.out.b2.keeps k8 (fun h => by have := hS8 _ h;omega)
    obtain ⟨c8,f8⟩ := B8.one
    refine hK.out _ _ (hHeld.keeps k8 (fun h => by have := hS8 _ h;omega)) (fun hHeld => ?_)
    clear hK Kont
    have H9 := Lib.hid (H4.out.put k8 hS8 O8)
    refine callL (i := 9) rfl (by kernel_rfl) (fun Kont hK => ?_)
    go_simp
    refine hK.out _ _ (hHeld.setOther (by simp) _) (fun hHeld => ?_)
    clear hK Kont
    refine wpAnyH_done (by kernel_rfl) ?_ _
    refine calmP_normal ?_
    clear own8 g8 O8 k8 hS8 B8 c8 f8 c4 f4
    go_wp2_with fail
    go_meet
    exact ⟨_,_,_,H9⟩
 case rest =>
  obtain ⟨A6,M6,C6,H6⟩ := hcut
  clear H3 HEN
  obtain ⟨q0,q1,q2,q3,q4,q5,q6,q7,q8,q9,qa,qb⟩ := dict_cells H6.out.b1
  obtain ⟨c2,f2⟩ := H6.out.b2.one
  obtain ⟨c3,f3⟩ := H6.out.b3.one
  go_wp2_with fail
  clear q0 q1 q2 q3 q4 q5 q6 q7 q8 q9 qa qb c2 f2 c3 f3
  have H7 := Lib.hid (H6.out.call ((Keeps.refl wc []).alloc (.cells #[.int .i64 g2,.slice p2a p2m p2c,.int .i64 g3,.slice p3a p3m p3c,.int .i64 g1,.slice p1a p1m p1c] 27)))
  have BT := Lib.hid (Blk.new wc #[.int .i64 g2,.slice p2a p2m p2c,.int .i64 g3,.slice p3a p3m p3c,.int .i64 g1,.slice p1a p1m p1c] 27)
  have hQ7 := H6.out.size
  generalize wc.alloc (.cells #[.int .i64 g2,.slice p2a p2m p2c,.int .i64 g3,.slice p3a p3m p3c,.int .i64 g1,.slice p1a p1m p1c] 27) = W7 at *
  obtain ⟨qB,hq7⟩ : ∃ q,wc.heap.size = q := ⟨_,rfl⟩
  rw [hq7] at BT hQ7 ⊢
  have HQ7 := Lib.hid hQ7
  clear hq7 H6 hQ7
  go_loopw [43] (fun s43 wr => ∃ (j : Nat) (A : Option Addr) (M C : Nat),j ≤ 3 ∧ s43 = .int .i64 (j : Int) ∧ Hid (PM w wr (dictC id (.slice pa pm pc) g1 (.slice p1a p1m p1c) g2 (.slice p2a p2m p2c) g3 (.slice p3a p3m p3c) (an : Int) (bn : Int) (cn : Int) (.slice pxa pxm pxc)) (.slice A M C) (putL (LA ++ EB) E2 E3 E1 j)) ∧ Hid (Blk wr qB #[.int .i64 g2,.slice p2a p2m p2c,.int .i64 g3,.slice p3a p3m p3c,.int .i64 g1,.slice p1a p1m p1c] 27)) (fun s43 _ => 3 - (intOf s43).toNat)
  case atStart => exact ⟨0,A6,M6,C6,by omega,rfl,H7,BT⟩
  case round =>
   obtain ⟨j,A,M,C,hj,rfl,hP,hB⟩ := hrel
   clear H7 BT
   have h3 : j = 0 ∨ j = 1 ∨ j = 2 ∨ j = 3 := by omega
   rcases h3 with rfl | rfl | rfl | hj3
   ·have z0 : wr.cell? ⟨qB,0,none⟩ = some (.int .i64 g2) := hB.out.cell 0
    have z1 : wr.cell? ⟨qB,1,none⟩ = some (.slice p2a p2m p2c) := hB.out.cell 1
    replace hP : Hid (PM w wr (dictC id (.slice pa pm pc) g1 (.slice p1a p1m p1c) g2 (.slice p2a p2m p2c) g3 (.slice p3a p3m p3c) (an : Int) (bn : Int) (cn : Int) (.slice pxa pxm pxc)) (.slice A M C) (LA ++ EB)) := hP
    go_wp2_with fail
    clear z0 z1
    have HD := Lib.hid (hP.out.call (((Keeps.refl wr []).alloc (.cells #[.int .i64 g2,.slice p2a p2m p2c] 27)).drew))
    have B5 := (Blk.new wr #[.int .i64 g2,.slice p2a p2m p2c] 27).drew
    have BA := Lib.hid ((hB.out.alloc (.cells #[.int .i64 g2,.slice p2a p2m p2c] 27)).drew)
    have hs5 := hP.out.size
    obtain ⟨c2,f2⟩ := HD.out.b2.one
    refine wp_calmP ?_
    refine wp_region_held_drew (S := (fun w' => Blk w' wr.heap.size #[.int .i64 g2,.slice p2a p2m p2c] 27)) (by kernel_rfl) B5 (fun hHeld => ?_)
    refine takeM 1 rfl (by intro w9 hSw;have y0 := hSw.cell 0;have y1 := hSw.cell 1;simp at y0 y1;clear hSw;go_simp;(try with_reducible rfl)) ?_
    try simp only [Act.put,stA,stZ,stS]
    refine call2L (i := 0) (j := 2) rfl rfl (by kernel_rfl) (fun Kont hK => ?_) (fun Kont hK => ?_)
    ·go_simp
     refine hK.out _ _ hHeld (fun hHeld => ?_)
     clear hK Kont
     refine callL (i := 2) rfl (by kernel_rfl) (fun Kont hK => ?_)
     go_simp
     refine (HE2.out _ HD.out.kw).mono ?_
     rintro e w4 ⟨v4,rfl,own4,k4⟩
     obtain ⟨a4,n4,cc4,rfl⟩ := own_formM own4
     have RD4 := Lib.hid (own_reads own4)
     clear own4
     have H4 := Lib.hid (HD.out.call k4)
     obtain ⟨c4,f4⟩ := H4.out.b2.one
     go_wp2_with fail
     refine hK.out _ _ (hHeld.keeps k4 (by simp)) (fun hHeld => ?_)
     clear hK Kont
     refine takeM 3 rfl (by intro w9 hSw;clear hSw;go_simp;(try with_reducible rfl)) ?_
     try simp only [Act.put,stA,stZ,stS]
     refine takeM 4 rfl (by intro w9 hSw;clear hSw;go_simp;(try with_reducible rfl)) ?_
     try simp only [Act.put,stA,stZ,stS]
     refine callL (i := 5) rfl (by kernel_rfl) (fun Kont hK => ?_)
     go_simp
     refine (gotb_yes _ _ _ _).mono ?_
     rintro e w5 ⟨rfl,rfl⟩
     go_wp2_with fail
     refine hK.out _ _ hHeld (fun hHeld => ?_)
     clear hK Kont
     refine callL (i := 6) rfl (by kernel_rfl) (fun Kont hK => ?_)
     refine step_appendI rfl _ _ 22 rfl (w.heap.size + 3) 5 i0 (.int .u8 0) 1 Tryz.underlying22 hi hz0 hz1 hz2 rfl (.slice A M C) (LA ++ EB).length _ rfl H4.out.own _ rfl .u8 E2 RD4.out (by have := HLL.out;unfold maxLen;omega) (by have := HLL.out;omega) H4.out.size ?_
     intro v8 w8 own8 g8
     have O8 : OwnB w8 (w.heap.size + 3) v8 ((LA ++ EB) ++ E2) := ownB_app own8
     obtain ⟨A8,M8,C8,rfl⟩ := own_formM O8
     obtain ⟨k8,hS8⟩ := H4.out.app g8
     have B8 := H4.out.b2.keeps k8 (fun h => by have := hS8 _ h;omega)
     obtain ⟨c8,f8⟩ := B8.one
     refine hK.out _ _ (hHeld.keeps k8 (H4.out.other hHeld (by decide))) (fun hHeld => ?_)
     clear hK Kont
     have H9 := Lib.hid (H4.out.put k8 hS8 O8)
     refine callL (i := 7) rfl (by kernel_rfl) (fun Kont hK => ?_)
     go_simp
     refine hK.out _ _ (hHeld.setOther (by simp;omega) _) (fun hHeld => ?_)
     clear hK Kont
     refine wpAnyH_done (by kernel_rfl) ?_ _
     refine calmP_normal ?_
     have BA4 := BA.out.keeps k4 (by simp)
     have BA9 := Lib.hid ((BA4.keeps k8 (H4.out.other BA4 (by decide))).setOther (a := ⟨w.heap.size + 1,0,none⟩) (by have := HQ7.out;simp;omega) (.slice A8 M8 C8))
     clear BA4
     clear own8 g8 O8 k8 hS8 B8 c8 f8 c4 f4
     go_wp2_with fail
     go_roundw
     case rel => exact ⟨1,_,_,_,by omega,by first | rfl | go_num,H9,BA9⟩
     case measure => simp [intOf]
    ·go_simp
     refine (HE2.out _ HD.out.kw).mono ?_
     rintro e w4 ⟨v4,rfl,own4,k4⟩
     obtain ⟨a4,n4,cc4,rfl⟩ := own_formM own4
     have RD4 := Lib.hid (own_reads own4)
     clear own4
     have H4 := Lib.hid (HD.out.call k4)
     obtain ⟨c4,f4⟩ := H4.out.b2.one
     go_wp2_with fail
     refine hK.out _ _ (hHeld.keeps k4 (by simp)) (fun hHeld => ?_)
     clear hK Kont
     refine takeM 3 rfl (by intro w9 hSw;clear hSw;go_simp;(try with_reducible rfl)) ?_
     try simp only [Act.put,stA,stZ,stS]
     refine takeM 4 rfl (by intro w9 hSw;clear hSw;go_simp;(try with_reducible rfl)) ?_
     try simp only [Act.put,stA,stZ,stS]
     refine call2L (i := 0) (j := 5) rfl rfl (by kernel_rfl) (fun Kont hK => ?_) (fun Kont hK => ?_)
     ·go_simp
      refine hK.out _ _ hHeld (fun hHeld => ?_)
      clear hK Kont
      refine callL (i := 5) rfl (by kernel_rfl) (fun Kont hK => ?_)
      go_simp
      refine (gotb_yes _ _ _ _).mono ?_
      rintro e w5 ⟨rfl,rfl⟩
      go_wp2_with fail
      refine hK.out _ _ hHeld (fun hHeld => ?_)
      clear hK Kont
      refine callL (i := 6) rfl (by kernel_rfl) (fun Kont hK => ?_)
      refine step_appendI rfl _ _ 22 rfl (w.heap.size + 3) 5 i0 (.int .u8 0) 1 Tryz.underlying22 hi hz0 hz1 hz2 rfl (.slice A M C) (LA ++ EB).length _ rfl H4.out.own _ rfl .u8 E2 RD4.out (by have := HLL.out;unfold maxLen;omega) (by have := HLL.out;omega) H4.out.size ?_
      intro v8 w8 own8 g8
      have O8 : OwnB w8 (w.heap.size + 3) v8 ((LA ++ EB) ++ E2) := ownB_app own8
      obtain ⟨A8,M8,C8,rfl⟩ := own_formM O8
      obtain ⟨k8,hS8⟩ := H4.out.app g8
      have B8 := H4.out.b2.keeps k8 (fun h => by have := hS8 _ h;omega)
      obtain ⟨c8,f8⟩ := B8.one
      refine hK.out _ _ (hHeld.keeps k8 (H4.out.other hHeld (by decide))) (fun hHeld => ?_)
      clear hK Kont
      have H9 := Lib.hid (H4.out.put k8 hS8 O8)
      refine callL (i := 7) rfl (by kernel_rfl) (fun Kont hK => ?_)
      go_simp
      refine hK.out _ _ (hHeld.setOther (by simp;omega) _) (fun hHeld => ?_)
      clear hK Kont
      refine wpAnyH_done (by kernel_rfl) ?_ _
      refine calmP_normal ?_
      have BA4 := BA.out.keeps k4 (by simp)
      have BA9 := Lib.hid ((BA4.keeps k8 (H4.out.other BA4 (by decide))).setOther (a := ⟨w.heap.size + 1,0,none⟩) (by have := HQ7.out;simp;omega) (.slice A8 M8 C8))
      clear BA4
      clear own8 g8 O8 k8 hS8 B8 c8 f8 c4 f4
      go_wp2_with fail
      go_roundw
      case rel => exact ⟨1,_,_,_,by omega,by first | rfl | go_num,H9,BA9⟩
      case measure => simp [intOf]
     ·go_simp
      refine (gotb_yes _ _ _ _).mono ?_
      rintro e w5 ⟨rfl,rfl⟩
      go_wp2_with fail
      refine hK.out _ _ hHeld (fun hHeld => ?_)
      clear hK Kont
      refine callL (i := 0) rfl (by kernel_rfl) (fun Kont hK => ?_)
      go_simp
      refine hK.out _ _ hHeld (fun hHeld => ?_)
      clear hK Kont
      refine callL (i := 6) rfl (by kernel_rfl) (fun Kont hK => ?_)
      refine step_appendI rfl _ _ 22 rfl (w.heap.size + 3) 5 i0 (.int .u8 0) 1 Tryz.underlying22 hi hz0 hz1 hz2 rfl (.slice A M C) (LA ++ EB).length _ rfl H4.out.own _ rfl .u8 E2 RD4.out (by have := HLL.out;unfold maxLen;omega) (by have := HLL.out;omega) H4.out.size ?_
      intro v8 w8 own8 g8
      have O8 : OwnB w8 (w.heap.size + 3) v8 ((LA ++ EB) ++ E2) := ownB_app own8
      obtain ⟨A8,M8,C8,rfl⟩ := own_formM O8
      obtain ⟨k8,hS8⟩ := H4.out.app g8
      have B8 := H4.out.b2.keeps k8 (fun h => by have := hS8 _ h;omega)
      obtain ⟨c8,f8⟩ := B8.one
      refine hK.out _ _ (hHeld.keeps k8 (H4.out.other hHeld (by decide))) (fun hHeld => ?_)
      clear hK Kont
      have H9 := Lib.hid (H4.out.put k8 hS8 O8)
      refine callL (i := 7) rfl (by kernel_rfl) (fun Kont hK => ?_)
      go_simp
      refine hK.out _ _ (hHeld.setOther (by simp;omega) _) (fun hHeld => ?_)
      clear hK Kont
      refine wpAnyH_done (by kernel_rfl) ?_ _
      refine calmP_normal ?_
      have BA4 := BA.out.keeps k4 (by simp)
      have BA9 := Lib.hid ((BA4.keeps k8 (H4.out.other BA4 (by decide))).setOther (a := ⟨w.heap.size + 1,0,none⟩) (by have := HQ7.out;simp;omega) (.slice A8 M8 C8))
      clear BA4
      clear own8 g8 O8 k8 hS8 B8 c8 f8 c4 f4
      go_wp2_with fail
      go_roundw
      case rel => exact ⟨1,_,_,_,by omega,by first | rfl | go_num,H9,BA9⟩
      case measure => simp [intOf]
   ·have z0 : wr.cell? ⟨qB,2,none⟩ = some (.int .i64 g3) := hB.out.cell 2
    have z1 : wr.cell? ⟨qB,3,none⟩ = some (.slice p3a p3m p3c) := hB.out.cell 3
    replace hP : Hid (PM w wr (dictC id (.slice pa pm pc) g1 (.slice p1a p1m p1c) g2 (.slice p2a p2m p2c) g3 (.slice p3a p3m p3c) (an : Int) (bn : Int) (cn : Int) (.slice pxa pxm pxc)) (.slice A M C) (LA ++ EB ++ E2)) := hP
    go_wp2_with fail
    clear z0 z1
    have HD := Lib.hid (hP.out.call (((Keeps.refl wr []).alloc (.cells #[.int .i64 g3,.slice p3a p3m p3c] 27)).drew))
    have B5 := (Blk.new wr #[.int .i64 g3,.slice p3a p3m p3c] 27).drew
    have BA := Lib.hid ((hB.out.alloc (.cells #[.int .i64 g3,.slice p3a p3m p3c] 27)).drew)
    have hs5 := hP.out.size
    obtain ⟨c2,f2⟩ := HD.out.b2.one
    refine wp_calmP ?_
    refine wp_region_held_drew (S := (fun w' => Blk w' wr.heap.size #[.int .i64 g3,.slice p3a p3m p3c] 27)) (by kernel_rfl) B5 (fun hHeld => ?_)
    refine takeM 1 rfl (by intro w9 hSw;have y0 := hSw.cell 0;have y1 := hSw.cell 1;simp at y0 y1;clear hSw;go_simp;(try with_reducible rfl)) ?_
    try simp only [Act.put,stA,stZ,stS]
    refine call2L (i := 0) (j := 2) rfl rfl (by kernel_rfl) (fun Kont hK => ?_) (fun Kont hK => ?_)
    ·go_simp
     refine hK.out _ _ hHeld (fun hHeld => ?_)
     clear hK Kont
     refine callL (i := 2) rfl (by kernel_rfl) (fun Kont hK => ?_)
     go_simp
     refine (HE3.out _ HD.out.kw).mono ?_
     rintro e w4 ⟨v4,rfl,own4,k4⟩
     obtain ⟨a4,n4,cc4,rfl⟩ := own_formM own4
     have RD4 := Lib.hid (own_reads own4)
     clear own4
     have H4 := Lib.hid (HD.out.call k4)
     obtain ⟨c4,f4⟩ := H4.out.b2.one
     go_wp2_with fail
     refine hK.out _ _ (hHeld.keeps k4 (by simp)) (fun hHeld => ?_)
     clear hK Kont
     refine takeM 3 rfl (by intro w9 hSw;clear hSw;go_simp;(try with_reducible rfl)) ?_
     try simp only [Act.put,stA,stZ,stS]
     refine takeM 4 rfl (by intro w9 hSw;clear hSw;go_simp;(try with_reducible rfl)) ?_
     try simp only [Act.put,stA,stZ,stS]
     refine callL (i := 5) rfl (by kernel_rfl) (fun Kont hK => ?_)
     go_simp
     refine (gotb_yes _ _ _ _).mono ?_
     rintro e w5 ⟨rfl,rfl⟩
     go_wp2_with fail
     refine hK.out _ _ hHeld (fun hHeld => ?_)
     clear hK Kont
     refine callL (i := 6) rfl (by kernel_rfl) (fun Kont hK => ?_)
     refine step_appendI rfl _ _ 22 rfl (w.heap.size + 3) 5 i0 (.int .u8 0) 1 Tryz.underlying22 hi hz0 hz1 hz2 rfl (.slice A M C) (LA ++ EB ++ E2).length _ rfl H4.out.own _ rfl .u8 E3 RD4.out (by have := HLL.out;unfold maxLen;omega) (by have := HLL.out;omega) H4.out.size ?_
     intro v8 w8 own8 g8
     have O8 : OwnB w8 (w.heap.size + 3) v8 ((LA ++ EB ++ E2) ++ E3) := ownB_app own8
     obtain ⟨A8,M8,C8,rfl⟩ := own_formM O8
     obtain ⟨k8,hS8⟩ := H4.out.app g8
     have B8 := H4.out.b2.keeps k8 (fun h => by have := hS8 _ h;omega)
     obtain ⟨c8,f8⟩ := B8.one
     refine hK.out _ _ (hHeld.keeps k8 (H4.out.other hHeld (by decide))) (fun hHeld => ?_)
     clear hK Kont
     have H9 := Lib.hid (H4.out.put k8 hS8 O8)
     refine callL (i := 7) rfl (by kernel_rfl) (fun Kont hK => ?_)
     go_simp
     refine hK.out _ _ (hHeld.setOther (by simp;omega) _) (fun hHeld => ?_)
     clear hK Kont
     refine wpAnyH_done (by kernel_rfl) ?_ _
     refine calmP_normal ?_
     have BA4 := BA.out.keeps k4 (by simp)
     have BA9 := Lib.hid ((BA4.keeps k8 (H4.out.other BA4 (by decide))).setOther (a := ⟨w.heap.size + 1,0,none⟩) (by have := HQ7.out;simp;omega) (.slice A8 M8 C8))
     clear BA4
     clear own8 g8 O8 k8 hS8 B8 c8 f8 c4 f4
     go_wp2_with fail
     go_roundw
     case rel => exact ⟨2,_,_,_,by omega,by first | rfl | go_num,H9,BA9⟩
     case measure => simp [intOf]
    ·go_simp
     refine (HE3.out _ HD.out.kw).mono ?_
     rintro e w4 ⟨v4,rfl,own4,k4⟩
     obtain ⟨a4,n4,cc4,rfl⟩ := own_formM own4
     have RD4 := Lib.hid (own_reads own4)
     clear own4
     have H4 := Lib.hid (HD.out.call k4)
     obtain ⟨c4,f4⟩ := H4.out.b2.one
     go_wp2_with fail
     refine hK.out _ _ (hHeld.keeps k4 (by simp)) (fun hHeld => ?_)
     clear hK Kont
     refine takeM 3 rfl (by intro w9 hSw;clear hSw;go_simp;(try with_reducible rfl)) ?_
     try simp only [Act.put,stA,stZ,stS]
     refine takeM 4 rfl (by intro w9 hSw;clear hSw;go_simp;(try with_reducible rfl)) ?_
     try simp only [Act.put,stA,stZ,stS]
     refine call2L (i := 0) (j := 5) rfl rfl (by kernel_rfl) (fun Kont hK => ?_) (fun Kont hK => ?_)
     ·go_simp
      refine hK.out _ _ hHeld (fun hHeld => ?_)
      clear hK Kont
      refine callL (i := 5) rfl (by kernel_rfl) (fun Kont hK => ?_)
      go_simp
      refine (gotb_yes _ _ _ _).mono ?_
      rintro e w5 ⟨rfl,rfl⟩
      go_wp2_with fail
      refine hK.out _ _ hHeld (fun hHeld => ?_)
      clear hK Kont
      refine callL (i := 6) rfl (by kernel_rfl) (fun Kont hK => ?_)
      refine step_appendI rfl _ _ 22 rfl (w.heap.size + 3) 5 i0 (.int .u8 0) 1 Tryz.underlying22 hi hz0 hz1 hz2 rfl (.slice A M C) (LA ++ EB ++ E2).length _ rfl H4.out.own _ rfl .u8 E3 RD4.out (by have := HLL.out;unfold maxLen;omega) (by have := HLL.out;omega) H4.out.size ?_
      intro v8 w8 own8 g8
      have O8 : OwnB w8 (w.heap.size + 3) v8 ((LA ++ EB ++ E2) ++ E3) := ownB_app own8
      obtain ⟨A8,M8,C8,rfl⟩ := own_formM O8
      obtain ⟨k8,hS8⟩ := H4.out.app g8
      have B8 := H4.out.b2.keeps k8 (fun h => by have := hS8 _ h;omega)
      obtain ⟨c8,f8⟩ := B8.one
      refine hK.out _ _ (hHeld.keeps k8 (H4.out.other hHeld (by decide))) (fun hHeld => ?_)
      clear hK Kont
      have H9 := Lib.hid (H4.out.put k8 hS8 O8)
      refine callL (i := 7) rfl (by kernel_rfl) (fun Kont hK => ?_)
      go_simp
      refine hK.out _ _ (hHeld.setOther (by simp;omega) _) (fun hHeld => ?_)
      clear hK Kont
      refine wpAnyH_done (by kernel_rfl) ?_ _
      refine calmP_normal ?_
      have BA4 := BA.out.keeps k4 (by simp)
      have BA9 := Lib.hid ((BA4.keeps k8 (H4.out.other BA4 (by decide))).setOther (a := ⟨w.heap.size + 1,0,none⟩) (by have := HQ7.out;simp;omega) (.slice A8 M8 C8))
      clear BA4
      clear own8 g8 O8 k8 hS8 B8 c8 f8 c4 f4
      go_wp2_with fail
      go_roundw
      case rel => exact ⟨2,_,_,_,by omega,by first | rfl | go_num,H9,BA9⟩
      case measure => simp [intOf]
     ·go_simp
      refine (gotb_yes _ _ _ _).mono ?_
      rintro e w5 ⟨rfl,rfl⟩
      go_wp2_with fail
      refine hK.out _ _ hHeld (fun hHeld => ?_)
      clear hK Kont
      refine callL (i := 0) rfl (by kernel_rfl) (fun Kont hK => ?_)
      go_simp
      refine hK.out _ _ hHeld (fun hHeld => ?_)
      clear hK Kont
      refine callL (i := 6) rfl (by kernel_rfl) (fun Kont hK => ?_)
      refine step_appendI rfl _ _ 22 rfl (w.heap.size + 3) 5 i0 (.int .u8 0) 1 Tryz.underlying22 hi hz0 hz1 hz2 rfl (.slice A M C) (LA ++ EB ++ E2).length _ rfl H4.out.own _ rfl .u8 E3 RD4.out (by have := HLL.out;unfold maxLen;omega) (by have := HLL.out;omega) H4.out.size ?_
      intro v8 w8 own8 g8
      have O8 : OwnB w8 (w.heap.size + 3) v8 ((LA ++ EB ++ E2) ++ E3) := ownB_app own8
      obtain ⟨A8,M8,C8,rfl⟩ := own_formM O8
      obtain ⟨k8,hS8⟩ := H4.out.app g8
      have B8 := H4.out.b2.keeps k8 (fun h => by have := hS8 _ h;omega)
      obtain ⟨c8,f8⟩ := B8.one
      refine hK.out _ _ (hHeld.keeps k8 (H4.out.other hHeld (by decide))) (fun hHeld => ?_)
      clear hK Kont
      have H9 := Lib.hid (H4.out.put k8 hS8 O8)
      refine callL (i := 7) rfl (by kernel_rfl) (fun Kont hK => ?_)
      go_simp
      refine hK.out _ _ (hHeld.setOther (by simp;omega) _) (fun hHeld => ?_)
      clear hK Kont
      refine wpAnyH_done (by kernel_rfl) ?_ _
      refine calmP_normal ?_
      have BA4 := BA.out.keeps k4 (by simp)
      have BA9 := Lib.hid ((BA4.keeps k8 (H4.out.other BA4 (by decide))).setOther (a := ⟨w.heap.size + 1,0,none⟩) (by have := HQ7.out;simp;omega) (.slice A8 M8 C8))
      clear BA4
      clear own8 g8 O8 k8 hS8 B8 c8 f8 c4 f4
      go_wp2_with fail
      go_roundw
      case rel => exact ⟨2,_,_,_,by omega,by first | rfl | go_num,H9,BA9⟩
      case measure => simp [intOf]
   ·have z0 : wr.cell? ⟨qB,4,none⟩ = some (.int .i64 g1) := hB.out.cell 4
    have z1 : wr.cell? ⟨qB,5,none⟩ = some (.slice p1a p1m p1c) := hB.out.cell 5
    replace hP : Hid (PM w wr (dictC id (.slice pa pm pc) g1 (.slice p1a p1m p1c) g2 (.slice p2a p2m p2c) g3 (.slice p3a p3m p3c) (an : Int) (bn : Int) (cn : Int) (.slice pxa pxm pxc)) (.slice A M C) (LA ++ EB ++ E2 ++ E3)) := hP
    go_wp2_with fail
    clear z0 z1
    have HD := Lib.hid (hP.out.call (((Keeps.refl wr []).alloc (.cells #[.int .i64 g1,.slice p1a p1m p1c] 27)).drew))
    have B5 := (Blk.new wr #[.int .i64 g1,.slice p1a p1m p1c] 27).drew
    have BA := Lib.hid ((hB.out.alloc (.cells #[.int .i64 g1,.slice p1a p1m p1c] 27)).drew)
    have hs5 := hP.out.size
    obtain ⟨c2,f2⟩ := HD.out.b2.one
    refine wp_calmP ?_
    refine wp_region_held_drew (S := (fun w' => Blk w' wr.heap.size #[.int .i64 g1,.slice p1a p1m p1c] 27)) (by kernel_rfl) B5 (fun hHeld => ?_)
    refine takeM 1 rfl (by intro w9 hSw;have y0 := hSw.cell 0;have y1 := hSw.cell 1;simp at y0 y1;clear hSw;go_simp;(try with_reducible rfl)) ?_
    try simp only [Act.put,stA,stZ,stS]
    refine call2L (i := 0) (j := 2) rfl rfl (by kernel_rfl) (fun Kont hK => ?_) (fun Kont hK => ?_)
    ·go_simp
     refine hK.out _ _ hHeld (fun hHeld => ?_)
     clear hK Kont
     refine callL (i := 2) rfl (by kernel_rfl) (fun Kont hK => ?_)
     go_simp
     refine (HE1.out _ HD.out.kw).mono ?_
     rintro e w4 ⟨v4,rfl,own4,k4⟩
     obtain ⟨a4,n4,cc4,rfl⟩ := own_formM own4
     have RD4 := Lib.hid (own_reads own4)
     clear own4
     have H4 := Lib.hid (HD.out.call k4)
     obtain ⟨c4,f4⟩ := H4.out.b2.one
     go_wp2_with fail
     refine hK.out _ _ (hHeld.keeps k4 (by simp)) (fun hHeld => ?_)
     clear hK Kont
     refine takeM 3 rfl (by intro w9 hSw;clear hSw;go_simp;(try with_reducible rfl)) ?_
     try simp only [Act.put,stA,stZ,stS]
     refine takeM 4 rfl (by intro w9 hSw;clear hSw;go_simp;(try with_reducible rfl)) ?_
     try simp only [Act.put,stA,stZ,stS]
     refine callL (i := 5) rfl (by kernel_rfl) (fun Kont hK => ?_)
     go_simp
     refine (gotb_yes _ _ _ _).mono ?_
     rintro e w5 ⟨rfl,rfl⟩
     go_wp2_with fail
     refine hK.out _ _ hHeld (fun hHeld => ?_)
     clear hK Kont
     refine callL (i := 6) rfl (by kernel_rfl) (fun Kont hK => ?_)
     refine step_appendI rfl _ _ 22 rfl (w.heap.size + 3) 5 i0 (.int .u8 0) 1 Tryz.underlying22 hi hz0 hz1 hz2 rfl (.slice A M C) (LA ++ EB ++ E2 ++ E3).length _ rfl H4.out.own _ rfl .u8 E1 RD4.out (by have := HLL.out;unfold maxLen;omega) (by have := HLL.out;omega) H4.out.size ?_
     intro v8 w8 own8 g8
     have O8 : OwnB w8 (w.heap.size + 3) v8 ((LA ++ EB ++ E2 ++ E3) ++ E1) := ownB_app own8
     obtain ⟨A8,M8,C8,rfl⟩ := own_formM O8
     obtain ⟨k8,hS8⟩ := H4.out.app g8
     have B8 := H4.out.b2.keeps k8 (fun h => by have := hS8 _ h;omega)
     obtain ⟨c8,f8⟩ := B8.one
     refine hK.out _ _ (hHeld.keeps k8 (H4.out.other hHeld (by decide))) (fun hHeld => ?_)
     clear hK Kont
     have H9 := Lib.hid (H4.out.put k8 hS8 O8)
     refine callL (i := 7) rfl (by kernel_rfl) (fun Kont hK => ?_)
     go_simp
     refine hK.out _ _ (hHeld.setOther (by simp;omega) _) (fun hHeld => ?_)
     clear hK Kont
     refine wpAnyH_done (by kernel_rfl) ?_ _
     refine calmP_normal ?_
     have BA4 := BA.out.keeps k4 (by simp)
     have BA9 := Lib.hid ((BA4.keeps k8 (H4.out.other BA4 (by decide))).setOther (a := ⟨w.heap.size + 1,0,none⟩) (by have := HQ7.out;simp;omega) (.slice A8 M8 C8))
     clear BA4
     clear own8 g8 O8 k8 hS8 B8 c8 f8 c4 f4
     go_wp2_with fail
     go_roundw
     case rel => exact ⟨3,_,_,_,by omega,by first | rfl | go_num,H9,BA9⟩
     case measure => simp [intOf]
    ·go_simp
     refine (HE1.out _ HD.out.kw).mono ?_
     rintro e w4 ⟨v4,rfl,own4,k4⟩
     obtain ⟨a4,n4,cc4,rfl⟩ := own_formM own4
     have RD4 := Lib.hid (own_reads own4)
     clear own4
     have H4 := Lib.hid (HD.out.call k4)
     obtain ⟨c4,f4⟩ := H4.out.b2.one
     go_wp2_with fail
     refine hK.out _ _ (hHeld.keeps k4 (by simp)) (fun hHeld => ?_)
     clear hK Kont
     refine takeM 3 rfl (by intro w9 hSw;clear hSw;go_simp;(try with_reducible rfl)) ?_
     try simp only [Act.put,stA,stZ,stS]
     refine takeM 4 rfl (by intro w9 hSw;clear hSw;go_simp;(try with_reducible rfl)) ?_
     try simp only [Act.put,stA,stZ,stS]
     refine call2L (i := 0) (j := 5) rfl rfl (by kernel_rfl) (fun Kont hK => ?_) (fun Kont hK => ?_)
     ·go_simp
      refine hK.out _ _ hHeld (fun hHeld => ?_)
      clear hK Kont
      refine callL (i := 5) rfl (by kernel_rfl) (fun Kont hK => ?_)
      go_simp
      refine (gotb_yes _ _ _ _).mono ?_
      rintro e w5 ⟨rfl,rfl⟩
      go_wp2_with fail
      refine hK.out _ _ hHeld (fun hHeld => ?_)
      clear hK Kont
      refine callL (i := 6) rfl (by kernel_rfl) (fun Kont hK => ?_)
      refine step_appendI rfl _ _ 22 rfl (w.heap.size + 3) 5 i0 (.int .u8 0) 1 Tryz.underlying22 hi hz0 hz1 hz2 rfl (.slice A M C) (LA ++ EB ++ E2 ++ E3).length _ rfl H4.out.own _ rfl .u8 E1 RD4.out (by have := HLL.out;unfold maxLen;omega) (by have := HLL.out;omega) H4.out.size ?_
      intro v8 w8 own8 g8
      have O8 : OwnB w8 (w.heap.size + 3) v8 ((LA ++ EB ++ E2 ++ E3) ++ E1) := ownB_app own8
      obtain ⟨A8,M8,C8,rfl⟩ := own_formM O8
      obtain ⟨k8,hS8⟩ := H4.out.app g8
      have B8 := H4.out.b2.keeps k8 (fun h => by have := hS8 _ h;omega)
      obtain ⟨c8,f8⟩ := B8.one
      refine hK.out _ _ (hHeld.keeps k8 (H4.out.other hHeld (by decide))) (fun hHeld => ?_)
      clear hK Kont
      have H9 := Lib.hid (H4.out.put k8 hS8 O8)
      refine callL (i := 7) rfl (by kernel_rfl) (fun Kont hK => ?_)
      go_simp
      refine hK.out _ _ (hHeld.setOther (by simp;omega) _) (fun hHeld => ?_)
      clear hK Kont
      refine wpAnyH_done (by kernel_rfl) ?_ _
      refine calmP_normal ?_
      have BA4 := BA.out.keeps k4 (by simp)
      have BA9 := Lib.hid ((BA4.keeps k8 (H4.out.other BA4 (by decide))).setOther (a := ⟨w.heap.size + 1,0,none⟩) (by have := HQ7.out;simp;omega) (.slice A8 M8 C8))
      clear BA4
      clear own8 g8 O8 k8 hS8 B8 c8 f8 c4 f4
      go_wp2_with fail
      go_roundw
      case rel => exact ⟨3,_,_,_,by omega,by first | rfl | go_num,H9,BA9⟩
      case measure => simp [intOf]
     ·go_simp
      refine (gotb_yes _ _ _ _).mono ?_
      rintro e w5 ⟨rfl,rfl⟩
      go_wp2_with fail
      refine hK.out _ _ hHeld (fun hHeld => ?_)
      clear hK Kont
      refine callL (i := 0) rfl (by kernel_rfl) (fun Kont hK => ?_)
      go_simp
      refine hK.out _ _ hHeld (fun hHeld => ?_)
      clear hK Kont
      refine callL (i := 6) rfl (by kernel_rfl) (fun Kont hK => ?_)
      refine step_appendI rfl _ _ 22 rfl (w.heap.size + 3) 5 i0 (.int .u8 0) 1 Tryz.underlying22 hi hz0 hz1 hz2 rfl (.slice A M C) (LA ++ EB ++ E2 ++ E3).length _ rfl H4.out.own _ rfl .u8 E1 RD4.out (by have := HLL.out;unfold maxLen;omega) (by have := HLL.out;omega) H4.out.size ?_
      intro v8 w8 own8 g8
      have O8 : OwnB w8 (w.heap.size + 3) v8 ((LA ++ EB ++ E2 ++ E3) ++ E1) := ownB_app own8
      obtain ⟨A8,M8,C8,rfl⟩ := own_formM O8
      obtain ⟨k8,hS8⟩ := H4.out.app g8
      have B8 := H4.out.b2.keeps k8 (fun h => by have := hS8 _ h;omega)
      obtain ⟨c8,f8⟩ := B8.one
      refine hK.out _ _ (hHeld.keeps k8 (H4.out.other hHeld (by decide))) (fun hHeld => ?_)
      clear hK Kont
      have H9 := Lib.hid (H4.out.put k8 hS8 O8)
      refine callL (i := 7) rfl (by kernel_rfl) (fun Kont hK => ?_)
      go_simp
      refine hK.out _ _ (hHeld.setOther (by simp;omega) _) (fun hHeld => ?_)
      clear hK Kont
      refine wpAnyH_done (by kernel_rfl) ?_ _
      refine calmP_normal ?_
      have BA4 := BA.out.keeps k4 (by simp)
      have BA9 := Lib.hid ((BA4.keeps k8 (H4.out.other BA4 (by decide))).setOther (a := ⟨w.heap.size + 1,0,none⟩) (by have := HQ7.out;simp;omega) (.slice A8 M8 C8))
      clear BA4
      clear own8 g8 O8 k8 hS8 B8 c8 f8 c4 f4
      go_wp2_with fail
      go_roundw
      case rel => exact ⟨3,_,_,_,by omega,by first | rfl | go_num,H9,BA9⟩
      case measure => simp [intOf]
   ·clear hB HE2 HE3 HE1 HQ7
    replace hP : Hid (PM w wr (dictC id (.slice pa pm pc) g1 (.slice p1a p1m p1c) g2 (.slice p2a p2m p2c) g3 (.slice p3a p3m p3c) (an : Int) (bn : Int) (cn : Int) (.slice pxa pxm pxc)) (.slice A M C) (LA ++ EB ++ E2 ++ E3 ++ E1)) := Lib.hid (by rw [hj3] at hP;exact hP.out)
    have hjd : decide ((j : Int) < 3) = false := decide_eq_false (by omega)
    have hjn : decide (j < 3) = false := decide_eq_false (by omega)
    clear hj3 hj
    obtain ⟨jo,rfl⟩ : ∃ x,x = j := ⟨_,rfl⟩
    obtain ⟨wo,rfl⟩ : ∃ x,x = wr := ⟨_,rfl⟩
    obtain ⟨q0,q1,q2,q3,q4,q5,q6,q7,q8,q9,qa,qb⟩ := dict_cells hP.out.b1
    obtain ⟨c2,f2⟩ := hP.out.b2.one
    obtain ⟨c3,f3⟩ := hP.out.b3.one
    go_wp2_with fail
    clear q0 q1 q2 q3 q4 q5 q6 q7 q8 q9 qa qb c2 f2 c3 f3
    obtain ⟨V1,hV1⟩ : ∃ V,varI an = V := ⟨_,rfl⟩
    obtain ⟨V2,hV2⟩ : ∃ V,varI bn = V := ⟨_,rfl⟩
    obtain ⟨V3,hV3⟩ : ∃ V,varI cn = V := ⟨_,rfl⟩
    obtain ⟨V4,hV4⟩ : ∃ V,varI X.length = V := ⟨_,rfl⟩
    have HVL : Hid (V1.length ≤ 10 ∧ V2.length ≤ 10 ∧ V3.length ≤ 10 ∧ V4.length ≤ 10) := Lib.hid (by
     have h := HNL.out
     rw [← hV1,← hV2,← hV3,← hV4]
     exact ⟨varI_len 9 _ (by omega),varI_len 9 _ (by omega),varI_len 9 _ (by omega),varI_len 9 _ (by omega)⟩)
    have HP1 : Hid (∀ W u l,RdI .u8 W u l → l.length ≤ 500000 → Calls Tryz.prog 67 #[u,.int .u64 (an : Int)] W fun e w' => ∃ v',e = .returned (.tuple #[v',.int .i64 0]) ∧ OwnB w' W.heap.size v' (l ++ V1) ∧ Keeps W w' []) := Lib.hid (fun W u l h hl => by rw [← hV1];exact putv_ok an u l W h hl HNL.out.1)
    have HP2 : Hid (∀ W u l,RdI .u8 W u l → l.length ≤ 500000 → Calls Tryz.prog 67 #[u,.int .u64 (bn : Int)] W fun e w' => ∃ v',e = .returned (.tuple #[v',.int .i64 0]) ∧ OwnB w' W.heap.size v' (l ++ V2) ∧ Keeps W w' []) := Lib.hid (fun W u l h hl => by rw [← hV2];exact putv_ok bn u l W h hl HNL.out.2.1)
    have HP3 : Hid (∀ W u l,RdI .u8 W u l → l.length ≤ 500000 → Calls Tryz.prog 67 #[u,.int .u64 (cn : Int)] W fun e w' => ∃ v',e = .returned (.tuple #[v',.int .i64 0]) ∧ OwnB w' W.heap.size v' (l ++ V3) ∧ Keeps W w' []) := Lib.hid (fun W u l h hl => by rw [← hV3];exact putv_ok cn u l W h hl HNL.out.2.2.1)
    have HP4 : Hid (∀ W u l,RdI .u8 W u l → l.length ≤ 500000 → Calls Tryz.prog 67 #[u,.int .u64 (pxm : Int)] W fun e w' => ∃ v',e = .returned (.tuple #[v',.int .i64 0]) ∧ OwnB w' W.heap.size v' (l ++ V4) ∧ Keeps W w' []) := Lib.hid (fun W u l h hl => by rw [← hV4,← HPX.out];exact putv_ok pxm u l W h hl (by have := HPX.out;have := HNL.out;omega))
    have HVE := Lib.hid (show _ ∧ _ ∧ _ ∧ _ from ⟨hV1,hV2,hV3,hV4⟩)
    clear hV1 hV2 hV3 hV4
    have hix0 : ∀ W,(Instr.index 28 (.agg #[.int .i64 (an : Int),.int .i64 (bn : Int),.int .i64 (cn : Int)]) (.int .i64 0)).run Tryz.prog W = .ok (.int .i64 (an : Int)) W := fun W => rfl
    have hix1 : ∀ W,(Instr.index 28 (.agg #[.int .i64 (an : Int),.int .i64 (bn : Int),.int .i64 (cn : Int)]) (.int .i64 1)).run Tryz.prog W = .ok (.int .i64 (bn : Int)) W := fun W => rfl
    have hix2 : ∀ W,(Instr.index 28 (.agg #[.int .i64 (an : Int),.int .i64 (bn : Int),.int .i64 (cn : Int)]) (.int .i64 2)).run Tryz.prog W = .ok (.int .i64 (cn : Int)) W := fun W => rfl
    go_loopw [58] (fun s58 wr => ∃ (j : Nat) (A : Option Addr) (M C : Nat),j ≤ 3 ∧ s58 = .int .i64 (j : Int) ∧ Hid (PM w wr (dictC id (.slice pa pm pc) g1 (.slice p1a p1m p1c) g2 (.slice p2a p2m p2c) g3 (.slice p3a p3m p3c) (an : Int) (bn : Int) (cn : Int) (.slice pxa pxm pxc)) (.slice A M C) (putL (LA ++ EB ++ E2 ++ E3 ++ E1) V1 V2 V3 j))) (fun s58 _ => 3 - (intOf s58).toNat)
    case atStart => exact ⟨0,A,M,C,by omega,rfl,hP⟩
    case round =>
     obtain ⟨j,A',M',C',hj,rfl,hP'⟩ := hrel
     clear hP
     have h3 : j = 0 ∨ j = 1 ∨ j = 2 ∨ j = 3 := by omega
     rcases h3 with rfl | rfl | rfl | rfl
     ·replace hP' : Hid (PM w wr (dictC id (.slice pa pm pc) g1 (.slice p1a p1m p1c) g2 (.slice p2a p2m p2c) g3 (.slice p3a p3m p3c) (an : Int) (bn : Int) (cn : Int) (.slice pxa pxm pxc)) (.slice A' M' C') (LA ++ EB ++ E2 ++ E3 ++ E1)) := hP'
      have HLJ : Hid ((LA ++ EB ++ E2 ++ E3 ++ E1).length ≤ 500000) := Lib.hid (by have := HLL.out.2;have := HVL.out;simp only [List.length_append] at *;omega)
      obtain ⟨c2,f2⟩ := hP'.out.b2.one
      go_wp2_with fail
      clear c2 f2
      refine (HP1.out _ _ _ (own_reads hP'.out.own) HLJ.out).mono ?_
      rintro e w4 ⟨v4,rfl,own4,k4⟩
      obtain ⟨a4,n4,cc4,rfl⟩ := own_formM own4
      have H4 := Lib.hid (hP'.out.call k4)
      have hs4 := hP'.out.size
      have H9 := Lib.hid (H4.out.put (Keeps.refl _ []) (by simp) (own_base own4 hs4))
      obtain ⟨c4,f4⟩ := H4.out.b2.one
      clear k4 own4 hs4 hP'
      go_wp2_with fail
      refine (gotb_yes _ _ _ _).mono ?_
      rintro e w5 ⟨rfl,rfl⟩
      go_wp2_with fail
      go_roundw
      case rel => exact ⟨1,_,_,_,by omega,by first | rfl | go_num,H9⟩
      case measure => simp [intOf]
     ·replace hP' : Hid (PM w wr (dictC id (.slice pa pm pc) g1 (.slice p1a p1m p1c) g2 (.slice p2a p2m p2c) g3 (.slice p3a p3m p3c) (an : Int) (bn : Int) (cn : Int) (.slice pxa pxm pxc)) (.slice A' M' C') ((LA ++ EB ++ E2 ++ E3 ++ E1) ++ V1)) := hP'
      have HLJ : Hid (((LA ++ EB ++ E2 ++ E3 ++ E1) ++ V1).length ≤ 500000) := Lib.hid (by have := HLL.out.2;have := HVL.out;simp only [List.length_append] at *;omega)
      obtain ⟨c2,f2⟩ := hP'.out.b2.one
      go_wp2_with fail
      clear c2 f2
      refine (HP2.out _ _ _ (own_reads hP'.out.own) HLJ.out).mono ?_
      rintro e w4 ⟨v4,rfl,own4,k4⟩
      obtain ⟨a4,n4,cc4,rfl⟩ := own_formM own4
      have H4 := Lib.hid (hP'.out.call k4)
      have hs4 := hP'.out.size
      have H9 := Lib.hid (H4.out.put (Keeps.refl _ []) (by simp) (own_base own4 hs4))
      obtain ⟨c4,f4⟩ := H4.out.b2.one
      clear k4 own4 hs4 hP'
      go_wp2_with fail
      refine (gotb_yes _ _ _ _).mono ?_
      rintro e w5 ⟨rfl,rfl⟩
      go_wp2_with fail
      go_roundw
      case rel => exact ⟨2,_,_,_,by omega,by first | rfl | go_num,H9⟩
      case measure => simp [intOf]
     ·replace hP' : Hid (PM w wr (dictC id (.slice pa pm pc) g1 (.slice p1a p1m p1c) g2 (.slice p2a p2m p2c) g3 (.slice p3a p3m p3c) (an : Int) (bn : Int) (cn : Int) (.slice pxa pxm pxc)) (.slice A' M' C') ((LA ++ EB ++ E2 ++ E3 ++ E1) ++ V1 ++ V2)) := hP'
      have HLJ : Hid (((LA ++ EB ++ E2 ++ E3 ++ E1) ++ V1 ++ V2).length ≤ 500000) := Lib.hid (by have := HLL.out.2;have := HVL.out;simp only [List.length_append] at *;omega)
      obtain ⟨c2,f2⟩ := hP'.out.b2.one
      go_wp2_with fail
      clear c2 f2
      refine (HP3.out _ _ _ (own_reads hP'.out.own) HLJ.out).mono ?_
      rintro e w4 ⟨v4,rfl,own4,k4⟩
      obtain ⟨a4,n4,cc4,rfl⟩ := own_formM own4
      have H4 := Lib.hid (hP'.out.call k4)
      have hs4 := hP'.out.size
      have H9 := Lib.hid (H4.out.put (Keeps.refl _ []) (by simp) (own_base own4 hs4))
      obtain ⟨c4,f4⟩ := H4.out.b2.one
      clear k4 own4 hs4 hP'
      go_wp2_with fail
      refine (gotb_yes _ _ _ _).mono ?_
      rintro e w5 ⟨rfl,rfl⟩
      go_wp2_with fail
      go_roundw
      case rel => exact ⟨3,_,_,_,by omega,by first | rfl | go_num,H9⟩
      case measure => simp [intOf]
     ·replace hP' : Hid (PM w wr (dictC id (.slice pa pm pc) g1 (.slice p1a p1m p1c) g2 (.slice p2a p2m p2c) g3 (.slice p3a p3m p3c) (an : Int) (bn : Int) (cn : Int) (.slice pxa pxm pxc)) (.slice A' M' C') ((LA ++ EB ++ E2 ++ E3 ++ E1) ++ V1 ++ V2 ++ V3)) := hP'
      have HLJ : Hid (((LA ++ EB ++ E2 ++ E3 ++ E1) ++ V1 ++ V2 ++ V3).length ≤ 4000) := Lib.hid (by have := HLL.out.2;have := HVL.out;simp only [List.length_append] at *;omega)
      obtain ⟨q0,q1,q2,q3,q4,q5,q6,q7,q8,q9,qa,qb⟩ := dict_cells hP'.out.b1
      obtain ⟨c2,f2⟩ := hP'.out.b2.one
      obtain ⟨c3,f3⟩ := hP'.out.b3.one
      go_wp2_with fail
      clear q0 q1 q2 q3 q4 q5 q6 q7 q8 q9 qa qb c2 f2 c3 f3
      refine (HP4.out _ _ _ (own_reads hP'.out.own) (by have := HLJ.out;omega)).mono ?_
      rintro e w4 ⟨v4,rfl,own4,k4⟩
      obtain ⟨a4,n4,cc4,rfl⟩ := own_formM own4
      have H4 := Lib.hid (hP'.out.call k4)
      have hs4 := hP'.out.size
      have H9 := Lib.hid (H4.out.put (Keeps.refl _ []) (by simp) (own_base own4 hs4))
      obtain ⟨c4,f4⟩ := H4.out.b2.one
      clear k4 own4 hs4 hP'
      go_wp2_with fail
      have hxl := HNL.out.2.2.2
      have HLK : Hid (((LA ++ EB ++ E2 ++ E3 ++ E1) ++ V1 ++ V2 ++ V3 ++ V4).length + X.length ≤ 1000000) := Lib.hid (by have := HLJ.out;have := HVL.out;have := HNL.out;rw [List.length_append];omega)
      refine (gotb_yes _ _ _ _).mono ?_
      rintro e w5 ⟨rfl,rfl⟩
      clear hxl
      obtain ⟨c9,f9⟩ := H9.out.b2.one
      have x9 : (w5.setCell ⟨w.heap.size + 1,0,none⟩ (.slice a4 n4 cc4)).cell? ⟨w.heap.size,11,none⟩ = some (.slice pxa pxm pxc) := H9.out.b1.cell 11
      go_wp2_with (at_builtin;(refine wpList_appendI (w := w5.setCell ⟨w.heap.size + 1,0,none⟩ (.slice a4 n4 cc4)) rfl _ _ 22 rfl (w.heap.size + 3) 5 i0 (.int .u8 0) 1 Tryz.underlying22 hi hz0 hz1 hz2 rfl (.slice a4 n4 cc4) _ _ rfl H9.out.own _ rfl .u8 X (HXR.out _ H9.out.kw) (by have := HLK.out;unfold maxLen;omega) (by have := HLK.out;omega) H9.out.size ?_;intro v8 w8 own8 g8 _;have O8 : OwnB w8 (w.heap.size + 3) v8 ((LA ++ EB ++ E2 ++ E3 ++ E1) ++ V1 ++ V2 ++ V3 ++ V4 ++ X) := ownB_app own8;obtain ⟨A8,M8,C8,rfl⟩ := own_formM O8;obtain ⟨k8,hS8⟩ := H9.out.app g8;have H10 := Lib.hid (H9.out.put k8 hS8 O8);have B8 := H9.out.b2.keeps k8 (fun h => by have := hS8 _ h;omega);obtain ⟨c8,f8⟩ := B8.one;obtain ⟨d8,e8⟩ := H10.out.b3.one;have H11 := Lib.hid H10.out.err;clear own8 g8 O8 k8 hS8 B8))
      refine leaves_cons (f := 61) (args := #[.pointer (some ⟨w.heap.size + 1,0,none⟩),.pointer (some ⟨w.heap.size + 1 + 1,0,none⟩)]) (by simp) (by simp [go_sem]) ?_
      refine (dput_idle _ _ _).mono ?_
      rintro e u' w9 ⟨rfl,rfl,rfl⟩
      obtain ⟨y2,-⟩ := H11.out.b2.one
      obtain ⟨y3,-⟩ := H11.out.b3.one
      have ow := H11.out.own
      rw [← HVE.out.1,← HVE.out.2.1,← HVE.out.2.2.1,← HVE.out.2.2.2] at ow
      exact ⟨.tuple #[.slice A8 M8 C8,.int .i64 0],by simp only [results,Tryz.results28];go_simp,_,rfl,own_base (base' := w.heap.size) ow (Nat.le_add_right _ 3),H11.out.kw⟩


end Go.Proofs.YtcmagccfagijlaaGreat
