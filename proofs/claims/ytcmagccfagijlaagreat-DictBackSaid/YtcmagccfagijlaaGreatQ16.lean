/-
  Walks over package weights: the reader of format 1. (Printed by mkWe.py.)
  Walks over package weights: Decode for format 1. (Printed by mkWg.py.)
  Walks over package weights: the deferred function of further callers, FromTree.
  Walks over the references of packages canon and weights: Right, Longest, Of.
  Walks over package weights: ToTree, Implied.
  Walks over the reference of package weights: last, Last.
  Walks over the reference of package weights: Tree.
  Walks over the reference of tree descriptions: halves, coded, Get. (Printed by mkWr.py.)
  Walks over package weights: ways, described, EncodePacked.
  Walks over the reference of package weights: Varint, Halves.
  The law's helpers same, no, gets.
  What a description of a tree says, in one word: weights.Decode and the reference's Get; Decode without a cursor. (Printed by mkWu.py.)
  Plain: the error that a description of a tree gives is not 0. No program in sight.
-/
import Derived.Test.YtcmagccfagijlaaGreatQ13
import Derived.Test.YtcmagccfagijlaaGreatQ15
import Derived.Test.YtcmagccfagijlaaGreatQ4
import Derived.Test.YtcmagccfagijlaaGreatQ3
import Derived.Test.YtcmagccfagijlaaGreatQ14
import Derived.Deep.QuietTactic
import Derived.BigQuiet
import Derived.Test.YtcmagccfagijlaaGreatQ1
import Derived.Test.YtcmagccfagijlaaGreatQ2
import Derived.Laws.EntriesVeiled
namespace Go.Proofs.YtcmagccfagijlaaGreat
set_option linter.unusedVariables false
set_option linter.unusedSimpArgs false
set_option linter.unusedSectionVars false
set_option maxRecDepth 100000
section
open Go.RowKit

def codedR (B : List Int) (k m : Nat) : Except Int (List Int) × Nat :=
 match descP ((B.drop k).take 1024) 12 6 with
 | .error e => (.error e,k)
 | .ok (g,norm,nb) =>
  if numE B (k + nb) 131072 ≠ 0 then (.error (numE B (k + nb) 131072),numK B (k + nb) 131072) else
  if bytesE B (numK B (k + nb) 131072) (numX B (k + nb) 131072 : Nat) ≠ 0 then (.error (bytesE B (numK B (k + nb) 131072) (numX B (k + nb) 131072 : Nat)),bytesK B (numK B (k + nb) 131072) (numX B (k + nb) 131072 : Nat)) else
  (flowD (g : Int) norm (bytesX B (numK B (k + nb) 131072) (numX B (k + nb) 131072 : Nat)) m,bytesK B (numK B (k + nb) 131072) (numX B (k + nb) 131072 : Nat))
def CodEnd (w : World) (p : Nat) (v : Value) (B : List Int) (R : Except Int (List Int) × Nat) (e : Ending) (w' : World) : Prop :=
 Keeps w w' [p] ∧ Cur w' p v B R.2 ∧ match R.1 with
  | .ok out => ∃ r,e = .returned r ∧ RdI .i64 w' r out ∧ Fresh w.heap.size r
  | .error n => n ≠ 0 ∧ e = .panicked [raisedBy n false]
theorem codEnd_no {w w' : World} {p k' : Nat} {v : Value} {B : List Int} {n : Int} (h1 : Keeps w w' [p]) (h2 : Cur w' p v B k') (h3 : n ≠ 0) : CodEnd w p v B (.error n,k') (.panicked [raisedBy n false]) w' := ⟨h1,h2,h3,rfl⟩

set_option maxHeartbeats 1000000 in
theorem rflow_desc (p k m : Nat) (v : Value) (B : List Int) (w : World) (hc : Cur w p v B k) {er : Int} (hd : descP ((B.drop k).take 1024) 12 6 = .error er) :
  Calls Tryz.prog 127 #[.agg #[.pointer (some ⟨p,0,none⟩)],.int .i64 (m : Int)] w (CodEnd w p v B (.error er,k)) := by
 have k0 := (Keeps.refl w []).alloc (.cells #[.pointer (some ⟨p,0,none⟩)] 164)
 have HD := Lib.hid (ddecode_any p k 12 6 v B _ (hc.keeps k0) (by decide))
 rw [hd] at HD
 rw [show ((12 : Nat) : Int) = 12 from rfl] at HD
 have hpl := hc.old.1
 clear hc hd
 go_enter Tryz.func127,Tryz.ntmps127
 go_wp2_with fail
 refine HD.out.mono ?_
 rintro e w1 ⟨k1,her,rfl,cur1⟩
 have K1 := Lib.hid ((k0.mono (S' := [p]) (by simp)).trans k1 (fun j hj _ => hj))
 have CUR := Lib.hid cur1
 clear cur1 k1
 go_wp2_with fail
 refine (wmust_no er her _ _ (Blk.newA (by simp))).mono ?_
 rintro e w5 ⟨rfl,rfl⟩
 go_wp2_with fail
 exact ⟨rfl,codEnd_no ((K1.out.alloc _).alloc _) ((CUR.out.keeps ((Keeps.refl _ []).alloc _)).keeps ((Keeps.refl _ []).alloc _)) her⟩

theorem zerosP_bound {symbols : Nat} : ∀ {f : Nat} {L L2 : List Bool} {out o : List Int},(∀ x ∈ out,-1 ≤ x ∧ x ≤ 600) → zerosP symbols f L out = .ok (o,L2) → ∀ x ∈ o,-1 ≤ x ∧ x ≤ 600 := by
 intro f
 induction f with
 | zero => intro L L2 out o _ h;cases h
 | succ f ih =>
  intro L L2 out o ho h
  have happ : ∀ k : Nat,∀ x ∈ out ++ List.replicate k (0 : Int),-1 ≤ x ∧ x ≤ 600 := fun k x hx => by
   rcases List.mem_append.1 hx with hx | hx
   ·exact ho x hx
   ·rw [(List.mem_replicate.1 hx).2];omega
  unfold zerosP at h
  split at h
  ·cases h
  ·split at h
   ·cases h
   ·split at h
    ·exact ih (happ _) h
    ·injection h with h
     injection h with e1 e2
     subst e1
     exact happ _
theorem normsP_bound {symbols : Nat} : ∀ {f : Nat} {L L2 : List Bool} {left : Nat} {out o : List Int} {ran : Bool},left ≤ 512 → (∀ x ∈ out,-1 ≤ x ∧ x ≤ 600) → normsP symbols f L left out ran = .ok (o,L2) → ∀ x ∈ o,-1 ≤ x ∧ x ≤ 600 := by
 intro f
 induction f with
 | zero => intro L L2 left out o ran _ _ h;cases h
 | succ f ih =>
  intro L L2 left out o ran hl ho h
  unfold normsP at h
  split at h
  ·injection h with h
   injection h with e1 e2
   subst e1
   exact ho
  ·split at h
   ·cases h
   ·split at h
    ·cases h
    ·rename_i v L1 hn
     obtain ⟨hv,-,-⟩ := numP_lt (by omega) hn
     have happ : ∀ x ∈ out ++ [(v : Int) - 1],-1 ≤ x ∧ x ≤ 600 := fun x hx => by
      rcases List.mem_append.1 hx with hx | hx
      ·exact ho x hx
      ·rw [List.mem_singleton.1 hx];omega
     split at h
     ·cases h
     ·split at h
      ·split at h
       ·cases h
       ·rename_i o2 L3 hz
        exact ih hl (zerosP_bound happ hz) h
      ·exact ih (by split <;> omega) happ h
theorem descP_bound {D : List Int} {symbols g nb : Nat} {log : Int} {norm : List Int} (h : descP D symbols log = .ok (g,norm,nb)) : ∀ x ∈ norm,-9223372036854775808 ≤ x ∧ x ≤ 9223372036854775807 := by
 have key : ∀ x ∈ norm,-1 ≤ x ∧ x ≤ 600 := by
  unfold descP at h
  split at h
  ·cases h
  ·rename_i n l L2 ht
   split at h
   ·injection h with h
    injection h with e1 h
    injection h with e2 e3
    subst e2
    unfold tabP at ht
    split at ht
    ·cases ht
    ·split at ht
     ·cases ht
     ·rename_i n0 L1 hk hc
      have h9 : 2 ^ (n0 + 1) ≤ 512 := by
       have := Nat.pow_le_pow_right (n := 2) (by decide) (show n0 + 1 ≤ 9 by omega)
       rwa [show (2 : Nat) ^ 9 = 512 by decide] at this
      cases hy : normsP symbols (symbols + 1) L1 (2 ^ (n0 + 1)) [] false with
      | error e => rw [hy] at ht;cases ht
      | ok y =>
       obtain ⟨o,L3⟩ := y
       rw [hy] at ht
       unfold tabOf at ht
       injection ht with ht
       injection ht with e4 ht
       injection ht with e5 e6
       subst e5
       exact normsP_bound h9 (by simp) hy
   ·cases h
 intro x hx
 have := key x hx
 omega

set_option maxHeartbeats 2000000 in
theorem rflow_rest (p k m g nb : Nat) (v : Value) (norm B : List Int) (w : World) (hc : Cur w p v B k) (hd : descP ((B.drop k).take 1024) 12 6 = .ok (g,norm,nb)) (hm : m ≤ 131072) :
  Calls Tryz.prog 127 #[.agg #[.pointer (some ⟨p,0,none⟩)],.int .i64 (m : Int)] w (CodEnd w p v B (codedR B k m)) := by
 have hb := descP_bound hd
 have k0 := (Keeps.refl w []).alloc (.cells #[.pointer (some ⟨p,0,none⟩)] 164)
 have b0 := Blk.new w #[.pointer (some ⟨p,0,none⟩)] 164
 have HD := Lib.hid (ddecode_any p k 12 6 v B _ (hc.keeps k0) (by decide))
 have hbytes : Hid (∀ x ∈ B,0 ≤ x ∧ x ≤ 255) := hc.byte
 have hBlen : Hid (B.length ≤ 1000000) := hc.len
 obtain ⟨RR,hRR⟩ : ∃ R,codedR B k m = R := ⟨_,rfl⟩
 rw [hRR]
 unfold codedR at hRR
 rw [hd] at HD hRR
 simp only at hRR
 rw [show ((12 : Nat) : Int) = 12 from rfl] at HD
 have hpl := hc.old.1
 obtain ⟨k1',hk1⟩ : ∃ x,k + nb = x := ⟨_,rfl⟩
 rw [hk1] at hRR
 have HRR := Lib.hid hRR
 clear hRR
 obtain ⟨nl,hnl⟩ : ∃ n,norm.length = n := ⟨_,rfl⟩
 have HDE : Hid (∀ e w',DescEnd (w.alloc (.cells #[.pointer (some ⟨p,0,none⟩)] 164)) p v B k (.ok (g,norm,nb)) e w' → Keeps (w.alloc (.cells #[.pointer (some ⟨p,0,none⟩)] 164)) w' [p] ∧ ∃ a c,e = .returned (.tuple #[.agg #[.int .i64 (g : Int),.slice a nl c],.int .i64 0]) ∧ w'.ownsRow (w.heap.size + 1) 3 1 (.slice a nl c) nl (norm.map (.int .i64)) ∧ nl ≤ 1300 ∧ Cur w' p v B k1') := by
  rintro e w' ⟨h1,a,c,h2,h3,h4,h5⟩
  rw [hk1] at h5
  rw [hnl] at h2 h3 h4
  exact ⟨h1,a,c,h2,by simpa using h3,h4,h5⟩
 have HB := Lib.hid hb
 clear hc hd hk1 hb
 have HNL := Lib.hid hnl
 clear hnl
 go_enter Tryz.func127,Tryz.ntmps127
 go_wp2_with fail
 refine HD.out.mono ?_
 intro e w1 hde
 obtain ⟨k1,a,c,rfl,own1,hnl2,cur1⟩ := HDE.out _ _ hde
 have b1 := b0.keeps k1 (by simp;omega)
 have kk1 : Keeps w w1 [p] := (k0.mono (S' := [p]) (by simp)).trans k1 (fun j hj _ => hj)
 have t1 := (Blk.new w1 #[.int .i64 (g : Int),.slice a nl c] 27).alloc (.cells #[.int .i64 0] 33)
 have ka := ((Keeps.refl w1 []).alloc (.cells #[.int .i64 (g : Int),.slice a nl c] 27)).alloc (.cells #[.int .i64 0] 33)
 have b2 := b1.keeps ka (by simp)
 have cur2 := cur1.keeps ka
 have own2 := own_keeps own1 ka
 have kk2 := kk1.then ka
 have hs1 := b1.lt
 have hpw : p < w1.heap.size := cur1.old.1
 have HR := Lib.hid (show _ ∧ _ ∧ _ ∧ _ ∧ _ from ⟨t1,b2,cur2,own2,kk2⟩)
 clear hde k1 b1 kk1 t1 ka b2 cur1 cur2 own1 own2 kk2 b0 k0 HD HDE
 go_wp2_with (go_at_call 143;(refine (wmust_yes _ _ (Blk.newA (by simp))).mono ?_;rintro e w5 ⟨rfl,rfl⟩))
 generalize ((w1.alloc (.cells #[.int .i64 (g : Int),.slice a nl c] 27)).alloc (.cells #[.int .i64 0] 33)) = w2 at *
 obtain ⟨t2,b2,cur2,own2,kk2⟩ := HR.out
 refine wp_region_held_drew (S := (fun w' => Blk w' w1.heap.size #[.int .i64 (g : Int),.slice a nl c] 27 ∧ Blk w' w.heap.size #[.pointer (some ⟨p,0,none⟩)] 164)) (by kernel_rfl) ⟨t2.drew,b2.drew⟩ (fun hHeld => ?_)
 have HNU := Lib.hid (rnumber_any p k1' 131072 v B w2.drew (cur2.keeps (Keeps.refl w2 []).drew) (by decide))
 have HBY := Lib.hid (fun W (mm : Int) kq (cu : Cur W p v B kq) => rbytes_any p kq mm v B W cu)
 rw [show ((131072 : Nat) : Int) = 131072 from rfl] at HNU
 have kk3 := kk2.drew
 have OW2 := Lib.hid (show w2.drew.ownsRow _ _ _ _ _ _ from own_keeps own2 (Keeps.refl w2 []).drew)
 clear t2 b2 cur2 own2 kk2 HR
 refine takeM 0 rfl (by intro w9 hSw;obtain ⟨q0,q1⟩ := hSw;have r0 := q0.cell 0;have r1 := q0.cell 1;simp at r0 r1;obtain ⟨r2,-⟩ := q1.one;clear q0 q1;go_simp;(try with_reducible rfl)) ?_
 try simp only [Act.put,stA,stZ,stS]
 refine takeM 1 rfl (by intro w9 hSw;obtain ⟨q0,q1⟩ := hSw;have r0 := q0.cell 0;have r1 := q0.cell 1;simp at r0 r1;obtain ⟨r2,-⟩ := q1.one;clear q0 q1;go_simp;(try with_reducible rfl)) ?_
 try simp only [Act.put,stA,stZ,stS]
 refine takeM 2 rfl (by intro w9 hSw;obtain ⟨q0,q1⟩ := hSw;have r0 := q0.cell 0;have r1 := q0.cell 1;simp at r0 r1;obtain ⟨r2,-⟩ := q1.one;clear q0 q1;go_simp;(try with_reducible rfl)) ?_
 try simp only [Act.put,stA,stZ,stS]
 refine takeM 5 rfl (by intro w9 hSw;obtain ⟨q0,q1⟩ := hSw;have r0 := q0.cell 0;have r1 := q0.cell 1;simp at r0 r1;obtain ⟨r2,-⟩ := q1.one;clear q0 q1;go_simp;(try with_reducible rfl)) ?_
 try simp only [Act.put,stA,stZ,stS]
 by_cases hE : numE B k1' 131072 = 0
 ·have hr := HRR.out
  rw [if_neg (by simpa using hE)] at hr
  refine callL (i := 3) rfl (by kernel_rfl) (fun Kont hK => ?_)
  go_simp
  refine HNU.out.mono ?_
  rintro e w3 ⟨h1,-,cur3,k3⟩
  obtain rfl := h1 hE
  go_wp2_with fail
  have h3a := hHeld.1.keeps k3 (by simp;omega)
  have h3b := hHeld.2.keeps k3 (by simp;omega)
  refine hK.out _ _ ?_ (fun hHeld => ?_)
  ·exact ⟨h3a,h3b⟩
  clear hK Kont h3a h3b h1
  have kk4 := kk3.trans k3 (fun j hj _ => hj)
  have OW3 := Lib.hid (own_old OW2.out k3 (fun x hx hm => by have := List.mem_singleton.1 hm;have := (OW2.out.lt x hx).1;omega))
  have hs3 := k3.size
  have HBY3 := Lib.hid (HBY.out w3 ((numX B k1' 131072 : Nat) : Int) (numK B k1' 131072) cur3)
  have HLEN2 : Hid ((bytesX B (numK B k1' 131072) ((numX B k1' 131072 : Nat) : Int)).length ≤ 1000000) := by
   show _ ≤ _
   have := hBlen.out
   unfold bytesX
   split
   ·rw [List.length_take,List.length_drop];omega
   ·simp
  have HBB2 : Hid (∀ x ∈ bytesX B (numK B k1' 131072) ((numX B k1' 131072 : Nat) : Int),0 ≤ x ∧ x ≤ 255) := fun x hx => hbytes.out x (bytesX_mem hx)
  clear k3 cur3 OW2 HNU HBY kk3
  generalize numX B k1' 131072 = NX at *
  generalize numK B k1' 131072 = NK at *
  generalize bytesX B NK (NX : Int) = BX at *
  generalize bytesE B NK (NX : Int) = BE at *
  generalize bytesK B NK (NX : Int) = BK at *
  by_cases hE2 : BE = 0
  ·rw [if_neg (by simpa using hE2)] at hr
   refine callL (i := 4) rfl (by kernel_rfl) (fun Kont hK => ?_)
   go_simp
   refine HBY3.out.mono ?_
   rintro e w4 ⟨h1,-,cur4,k4⟩
   obtain ⟨rb,rfl,rdb,-⟩ := h1 hE2
   go_wp2_with fail
   have h3a := hHeld.1.keeps k4 (by simp;omega)
   have h3b := hHeld.2.keeps k4 (by simp;omega)
   refine hK.out _ _ ?_ (fun hHeld => ?_)
   ·exact ⟨h3a,h3b⟩
   clear hK Kont h3a h3b h1
   have kk5 := kk4.trans k4 (fun j hj _ => hj)
   have ow4 := own_old OW3.out k4 (fun x hx hm => by have := List.mem_singleton.1 hm;have := (OW3.out.lt x hx).1;omega)
   have rdn : RdI .i64 w4 (.slice a nl c) norm := by
    have h := ow4
    rw [← HNL.out] at h ⊢
    exact own_reads h
   have HFD := Lib.hid (fdec_any (g : Int) (.slice a nl c) rb norm BX m w4 rdn (by rw [HNL.out];omega) HB.out rdb HLEN2.out HBB2.out hm)
   have hs4 := k4.size
   have CUR4 := Lib.hid cur4
   clear k4 ow4 rdn rdb cur4 OW3 HBY3 kk4
   cases hF : flowD (g : Int) norm BX m with
   | ok outl =>
    rw [hF] at HFD hr
    refine callL (i := 6) rfl (by kernel_rfl) (fun Kont hK => ?_)
    go_simp
    refine HFD.out.mono ?_
    rintro e w5 ⟨k5,rf,rfl,rdf,frf⟩
    go_wp2_with fail
    have h3a := hHeld.1.keeps k5 (by simp)
    have h3b := hHeld.2.keeps k5 (by simp)
    refine hK.out _ _ ?_ (fun hHeld => ?_)
    ·exact ⟨h3a,h3b⟩
    clear hK Kont h3a h3b
    refine takeM 7 rfl (by intro w9 hSw;clear hSw;go_simp;(try with_reducible rfl)) ?_
    try simp only [Act.put,stA,stZ,stS]
    refine takeM 8 rfl (by intro w9 hSw;clear hSw;go_simp;(try with_reducible rfl)) ?_
    try simp only [Act.put,stA,stZ,stS]
    refine takeM 9 rfl (by intro w9 hSw;clear hSw;go_simp;(try with_reducible rfl)) ?_
    try simp only [Act.put,stA,stZ,stS]
    refine takeM 10 rfl (by intro w9 hSw;clear hSw;go_simp;(try with_reducible rfl)) ?_
    try simp only [Act.put,stA,stZ,stS]
    refine takeM 11 rfl (by intro w9 hSw;clear hSw;go_simp;(try with_reducible rfl)) ?_
    try simp only [Act.put,stA,stZ,stS]
    refine wpAnyH_done (by kernel_rfl) ?_ _
    have K6 := Lib.hid (kk5.then k5)
    have RF := Lib.hid (And.intro rdf frf)
    have CU := Lib.hid (CUR4.out.keeps k5)
    have hss := kk5.size
    clear hHeld HFD hF k5 rdf frf kk5
    go_wp2_with (go_at_call 143;(refine (wmust_yes _ _ (Blk.newA rfl)).mono ?_;rintro e w7 ⟨rfl,rfl⟩))
    go_ret
    rw [← hr]
    exact ⟨K6.out.alloc _,CU.out.keeps ((Keeps.refl _ []).alloc _),rf,rfl,RF.out.1.keeps ((Keeps.refl _ []).alloc _),RF.out.2.mono hss⟩
   | error er =>
    rw [hF] at HFD hr
    refine callL (i := 6) rfl (by kernel_rfl) (fun Kont hK => ?_)
    go_simp
    refine HFD.out.mono ?_
    rintro e w5 ⟨k5,her,rfl⟩
    go_wp2_with fail
    have h3a := hHeld.1.keeps k5 (by simp)
    have h3b := hHeld.2.keeps k5 (by simp)
    refine hK.out _ _ ?_ (fun hHeld => ?_)
    ·exact ⟨h3a,h3b⟩
    clear hK Kont h3a h3b
    refine takeM 7 rfl (by intro w9 hSw;clear hSw;go_simp;(try with_reducible rfl)) ?_
    try simp only [Act.put,stA,stZ,stS]
    refine takeM 8 rfl (by intro w9 hSw;clear hSw;go_simp;(try with_reducible rfl)) ?_
    try simp only [Act.put,stA,stZ,stS]
    refine takeM 9 rfl (by intro w9 hSw;clear hSw;go_simp;(try with_reducible rfl)) ?_
    try simp only [Act.put,stA,stZ,stS]
    refine takeM 10 rfl (by intro w9 hSw;clear hSw;go_simp;(try with_reducible rfl)) ?_
    try simp only [Act.put,stA,stZ,stS]
    refine takeM 11 rfl (by intro w9 hSw;clear hSw;go_simp;(try with_reducible rfl)) ?_
    try simp only [Act.put,stA,stZ,stS]
    refine wpAnyH_done (by kernel_rfl) ?_ _
    have K6 := Lib.hid (kk5.then k5)
    have CU := Lib.hid (CUR4.out.keeps k5)
    clear hHeld HFD hF k5 kk5
    go_wp2_with (go_at_call 143;(refine (wmust_no er her _ _ (Blk.newA rfl)).mono ?_;rintro e w7 ⟨rfl,rfl⟩))
    rw [← hr]
    exact ⟨rfl,codEnd_no (K6.out.alloc _) (CU.out.keeps ((Keeps.refl _ []).alloc _)) her⟩
  ·rw [if_pos hE2] at hr
   refine callL (i := 4) rfl (by kernel_rfl) (fun Kont hK => ?_)
   go_simp
   refine HBY3.out.mono ?_
   rintro e w4 ⟨-,h1,cur4,k4⟩
   obtain rfl := h1 hE2
   rw [← hr]
   exact ⟨rfl,codEnd_no (kk4.trans k4 (fun j hj _ => hj)) cur4 hE2⟩
 ·have hr := HRR.out
  rw [if_pos hE] at hr
  refine callL (i := 3) rfl (by kernel_rfl) (fun Kont hK => ?_)
  go_simp
  refine HNU.out.mono ?_
  rintro e w3 ⟨-,h1,cur3,k3⟩
  obtain rfl := h1 hE
  rw [← hr]
  exact ⟨rfl,codEnd_no (kk3.trans k3 (fun j hj _ => hj)) cur3 hE⟩

theorem rflow_any (p k m : Nat) (v : Value) (B : List Int) (w : World) (hc : Cur w p v B k) (hm : m ≤ 131072) :
  Calls Tryz.prog 127 #[.agg #[.pointer (some ⟨p,0,none⟩)],.int .i64 (m : Int)] w (CodEnd w p v B (codedR B k m)) := by
 cases hd : descP ((B.drop k).take 1024) 12 6 with
 | error er =>
  have := rflow_desc p k m v B w hc hd
  unfold codedR
  rw [hd]
  exact this
 | ok z =>
  obtain ⟨g,norm,nb⟩ := z
  exact rflow_rest p k m g nb v norm B w hc hd hm
end

section
open Go.RowKit

set_option maxHeartbeats 4000000 in
theorem decode_cod (p k : Nat) (v : Value) (B : List Int) (w : World) (hc : Cur w p v B k) (hE : numE B k 255 = 0) (hX : 0 < numX B k 255) (hb : byteE B (numK B k 255) = 0) (hw : byteX B (numK B k 255) = 1) {er : Int} (hh : (codedR B (byteK B (numK B k 255)) (numX B k 255)).1 = .error er) :
  Calls Tryz.prog 88 #[.pointer (some ⟨p,0,none⟩)] w (DecEnd w p v B [] er (codedR B (byteK B (numK B k 255)) (numX B k 255)).2) := by
 have hmf : ∀ (fn : Fn) (first cap : Array Value) (w : World),(Instr.makeFunc fn first cap).run Tryz.prog w = .ok (.func fn first cap) w := fun _ _ _ _ => rfl
 have hlp := hc.old.1
 have HOLD := Lib.hid hc.old.2
 have k0 : Keeps w (((w.alloc (.cells #[.slice none 0 0] 25)).alloc (.cells #[.int .i64 0] 33)).alloc (.cells #[.pointer (some ⟨p,0,none⟩)] 164)) [] := (((Keeps.refl w []).alloc _).alloc _).alloc _
 have bo := ((Blk.new w #[.slice none 0 0] 25).alloc (.cells #[.int .i64 0] 33)).alloc (.cells #[.pointer (some ⟨p,0,none⟩)] 164)
 have be := (Blk.new (w.alloc (.cells #[.slice none 0 0] 25)) #[.int .i64 0] 33).alloc (.cells #[.pointer (some ⟨p,0,none⟩)] 164)
 have br := Blk.new ((w.alloc (.cells #[.slice none 0 0] 25)).alloc (.cells #[.int .i64 0] 33)) #[.pointer (some ⟨p,0,none⟩)] 164
 simp only [World.size_alloc] at be br
 have HN := Lib.hid (rnumber_any p k 255 v B _ (hc.keeps k0) (by decide))
 have HB := Lib.hid (fun W (h : Cur W p v B (numK B k 255)) => wreadByte_any p _ v B W #[.pointer (some ⟨p,0,none⟩)] #[] _ _ (byte_any p (numK B k 255) v B W h))
 have hX' : (0 : Int) < ((numX B k 255 : Nat) : Int) := by omega
 have hXB : numX B k 255 ≤ 255 := by
  unfold numX
  split
  ·rename_i h
   unfold numE at h
   split at h
   ·cases h
   ·rename_i hq;unfold numE at hE;omega
  ·omega
 have HH := Lib.hid (fun W (h : Cur W p v B (byteK B (numK B k 255))) => rflow_any p _ (numX B k 255) v B W h (by have := hXB;omega))
 clear hc
 generalize hbx : byteX B (numK B k 255) = BX at *
 generalize byteE B (numK B k 255) = BE at *
 generalize byteK B (numK B k 255) = BK at *
 subst hb hw
 clear hbx
 generalize codedR B BK (numX B k 255) = CR at *
 generalize hgx : numX B k 255 = X at *
 generalize numK B k 255 = K at *
 generalize numE B k 255 = E at *
 subst hE
 clear hgx
 go_enter_defers Tryz.func88,Tryz.ntmps88
 go_wp2_with (first | (go_at_call 124;(refine HN.out.mono ?_;rintro e w1 ⟨he,-,cur1,k1⟩;obtain rfl := he rfl;replace bo := bo.keeps k1 (by simp;omega);replace be := be.keeps k1 (by simp;omega);replace br := br.keeps k1 (by simp;omega);obtain ⟨br0,-⟩ := br.one;have lbr := br.lt)) | (go_at_call 125;(refine (wis_yes (by simp [*]) 12 _).mono ?_;rintro e w2 ⟨rfl,rfl⟩)))
 have bx := Blk.new w1 #[.func (.func 126) #[.agg #[.pointer (some ⟨p,0,none⟩)]] #[],.func (.func 127) #[.agg #[.pointer (some ⟨p,0,none⟩)]] #[]] 166
 have kx := (Keeps.refl w1 []).alloc (.cells #[.func (.func 126) #[.agg #[.pointer (some ⟨p,0,none⟩)]] #[],.func (.func 127) #[.agg #[.pointer (some ⟨p,0,none⟩)]] #[]] 166)
 have HB1 := HB.out _ (cur1.keeps kx)
 replace bo := bo.keeps kx (by simp)
 replace be := be.keeps kx (by simp)
 replace k0 : Keeps w _ [p] := (((k0.mono (S' := [p]) (by simp)).trans k1 (fun j hj _ => hj)).then kx)
 clear cur1 br br0 kx k1 he HB HN
 generalize (w1.alloc (.cells #[.func (.func 126) #[.agg #[.pointer (some ⟨p,0,none⟩)]] #[],.func (.func 127) #[.agg #[.pointer (some ⟨p,0,none⟩)]] #[]] 166)) = W1 at *
 generalize w1.heap.size = G at *
 refine HB1.mono ?_
 rintro e w2 ⟨he,-,cur,k2⟩
 obtain rfl := he rfl
 replace bo := bo.keeps k2 (by simp;omega)
 replace be := be.keeps k2 (by simp;omega)
 replace bx := bx.keeps k2 (by simp;omega)
 replace k0 := k0.trans k2 (fun j hj _ => hj)
 have HH1 := HH.out _ cur
 obtain ⟨bx0,-⟩ := (⟨bx.cell 1,bx.frozen 1⟩ : _ ∧ _)
 simp only [List.getElem?_toArray,List.getElem?_cons_succ,List.getElem?_cons_zero] at bx0
 go_wp2_with (go_at_call 125;(refine (wis_yes (by simp) 12 _).mono ?_;rintro e w3 ⟨rfl,rfl⟩))
 refine HH1.mono ?_
 rintro e w4 ⟨k4,cur4,hcod⟩
 replace bo := bo.keeps k4 (by simp;omega)
 replace be := be.keeps k4 (by simp;omega)
 replace k0 := k0.trans k4 (fun j hj _ => hj)
 replace cur := cur4
 rw [hh] at hcod
 obtain ⟨her,rfl⟩ := hcod
 obtain ⟨e0,e1⟩ := be.one
 obtain ⟨o0,o1⟩ := bo.one
 refine leaves_cons (f := 107) (args := #[.pointer (some ⟨w.heap.size + 1,0,none⟩),.func (.func 123) #[] #[.pointer (some ⟨w.heap.size,0,none⟩)]]) (by simp) (by simp [go_sem]) ?_
 refine (wcaught_dec _ _ (er) _ _ _ _ [] _ be bo (by omega)).mono ?_
 rintro e u' w'' ⟨rfl,rfl,rfl⟩
 refine ⟨.tuple #[.slice none 0 0,.int .i64 (er)],by simp only [results,Tryz.results88];go_simp,?_⟩
 refine ⟨_,rfl,.nil,.nil,?_,?_⟩
 ·exact cur.keepsS (S := [w.heap.size,w.heap.size + 1]) (by repeat (first | exact Keeps.refl _ _ | refine Keeps.setCell' (.inr (by simp)) ?_)) (by simp;omega) (fun ad n c he h0 hm => by have := HOLD.out ad n c he h0;simp at hm;omega)
 ·exact Keeps.setCell' (.inl (by dsimp only;omega)) (Keeps.setCell' (.inl (by dsimp only;omega)) k0)

set_option maxHeartbeats 4000000 in
theorem decode_cno (p k : Nat) (v : Value) (B : List Int) (w : World) (hc : Cur w p v B k) (hE : numE B k 255 = 0) (hX : 0 < numX B k 255) (hb : byteE B (numK B k 255) = 0) (hw : byteX B (numK B k 255) = 1) {L : List Int} (hh : (codedR B (byteK B (numK B k 255)) (numX B k 255)).1 = .ok L) (hL : L.length ≤ 1000000) (ht : okW L = false) :
  Calls Tryz.prog 88 #[.pointer (some ⟨p,0,none⟩)] w (DecEnd w p v B [] 12 (codedR B (byteK B (numK B k 255)) (numX B k 255)).2) := by
 have hmf : ∀ (fn : Fn) (first cap : Array Value) (w : World),(Instr.makeFunc fn first cap).run Tryz.prog w = .ok (.func fn first cap) w := fun _ _ _ _ => rfl
 have hlp := hc.old.1
 have HOLD := Lib.hid hc.old.2
 have k0 : Keeps w (((w.alloc (.cells #[.slice none 0 0] 25)).alloc (.cells #[.int .i64 0] 33)).alloc (.cells #[.pointer (some ⟨p,0,none⟩)] 164)) [] := (((Keeps.refl w []).alloc _).alloc _).alloc _
 have bo := ((Blk.new w #[.slice none 0 0] 25).alloc (.cells #[.int .i64 0] 33)).alloc (.cells #[.pointer (some ⟨p,0,none⟩)] 164)
 have be := (Blk.new (w.alloc (.cells #[.slice none 0 0] 25)) #[.int .i64 0] 33).alloc (.cells #[.pointer (some ⟨p,0,none⟩)] 164)
 have br := Blk.new ((w.alloc (.cells #[.slice none 0 0] 25)).alloc (.cells #[.int .i64 0] 33)) #[.pointer (some ⟨p,0,none⟩)] 164
 simp only [World.size_alloc] at be br
 have HN := Lib.hid (rnumber_any p k 255 v B _ (hc.keeps k0) (by decide))
 have HB := Lib.hid (fun W (h : Cur W p v B (numK B k 255)) => wreadByte_any p _ v B W #[.pointer (some ⟨p,0,none⟩)] #[] _ _ (byte_any p (numK B k 255) v B W h))
 have hX' : (0 : Int) < ((numX B k 255 : Nat) : Int) := by omega
 have hXB : numX B k 255 ≤ 255 := by
  unfold numX
  split
  ·rename_i h
   unfold numE at h
   split at h
   ·cases h
   ·rename_i hq;unfold numE at hE;omega
  ·omega
 have HH := Lib.hid (fun W (h : Cur W p v B (byteK B (numK B k 255))) => rflow_any p _ (numX B k 255) v B W h (by have := hXB;omega))
 clear hc
 generalize hbx : byteX B (numK B k 255) = BX at *
 generalize byteE B (numK B k 255) = BE at *
 generalize byteK B (numK B k 255) = BK at *
 subst hb hw
 clear hbx
 generalize codedR B BK (numX B k 255) = CR at *
 generalize hgx : numX B k 255 = X at *
 generalize numK B k 255 = K at *
 generalize numE B k 255 = E at *
 subst hE
 clear hgx
 go_enter_defers Tryz.func88,Tryz.ntmps88
 go_wp2_with (first | (go_at_call 124;(refine HN.out.mono ?_;rintro e w1 ⟨he,-,cur1,k1⟩;obtain rfl := he rfl;replace bo := bo.keeps k1 (by simp;omega);replace be := be.keeps k1 (by simp;omega);replace br := br.keeps k1 (by simp;omega);obtain ⟨br0,-⟩ := br.one;have lbr := br.lt)) | (go_at_call 125;(refine (wis_yes (by simp [*]) 12 _).mono ?_;rintro e w2 ⟨rfl,rfl⟩)))
 have bx := Blk.new w1 #[.func (.func 126) #[.agg #[.pointer (some ⟨p,0,none⟩)]] #[],.func (.func 127) #[.agg #[.pointer (some ⟨p,0,none⟩)]] #[]] 166
 have kx := (Keeps.refl w1 []).alloc (.cells #[.func (.func 126) #[.agg #[.pointer (some ⟨p,0,none⟩)]] #[],.func (.func 127) #[.agg #[.pointer (some ⟨p,0,none⟩)]] #[]] 166)
 have HB1 := HB.out _ (cur1.keeps kx)
 replace bo := bo.keeps kx (by simp)
 replace be := be.keeps kx (by simp)
 replace k0 : Keeps w _ [p] := (((k0.mono (S' := [p]) (by simp)).trans k1 (fun j hj _ => hj)).then kx)
 clear cur1 br br0 kx k1 he HB HN
 generalize (w1.alloc (.cells #[.func (.func 126) #[.agg #[.pointer (some ⟨p,0,none⟩)]] #[],.func (.func 127) #[.agg #[.pointer (some ⟨p,0,none⟩)]] #[]] 166)) = W1 at *
 generalize w1.heap.size = G at *
 refine HB1.mono ?_
 rintro e w2 ⟨he,-,cur,k2⟩
 obtain rfl := he rfl
 replace bo := bo.keeps k2 (by simp;omega)
 replace be := be.keeps k2 (by simp;omega)
 replace bx := bx.keeps k2 (by simp;omega)
 replace k0 := k0.trans k2 (fun j hj _ => hj)
 have HH1 := HH.out _ cur
 obtain ⟨bx0,-⟩ := (⟨bx.cell 1,bx.frozen 1⟩ : _ ∧ _)
 simp only [List.getElem?_toArray,List.getElem?_cons_succ,List.getElem?_cons_zero] at bx0
 go_wp2_with (go_at_call 125;(refine (wis_yes (by simp) 12 _).mono ?_;rintro e w3 ⟨rfl,rfl⟩))
 refine HH1.mono ?_
 rintro e w4 ⟨k4,cur4,hcod⟩
 replace bo := bo.keeps k4 (by simp;omega)
 replace be := be.keeps k4 (by simp;omega)
 replace k0 := k0.trans k4 (fun j hj _ => hj)
 replace cur := cur4
 rw [hh] at hcod
 obtain ⟨r4,rfl,rd4,-⟩ := hcod
 obtain ⟨a4,n4,c4,rfl,-,-⟩ := rd4.form
 have HT := wtree_any _ _ w4 rd4 hL
 clear HH1 rd4 cur4
 go_wp2_with fail
 refine HT.mono ?_
 rintro e w5 ⟨k5,-,he⟩
 obtain rfl := he ht
 replace bo := bo.keeps k5 (by simp)
 replace be := be.keeps k5 (by simp)
 replace k0 := k0.then k5
 replace cur := cur.keeps k5
 obtain ⟨e0,e1⟩ := be.one
 obtain ⟨o0,o1⟩ := bo.one
 refine leaves_cons (f := 107) (args := #[.pointer (some ⟨w.heap.size + 1,0,none⟩),.func (.func 123) #[] #[.pointer (some ⟨w.heap.size,0,none⟩)]]) (by simp) (by simp [go_sem]) ?_
 refine (wcaught_dec _ _ (12) _ _ _ _ [] _ be bo (by omega)).mono ?_
 rintro e u' w'' ⟨rfl,rfl,rfl⟩
 refine ⟨.tuple #[.slice none 0 0,.int .i64 (12)],by simp only [results,Tryz.results88];go_simp,?_⟩
 refine ⟨_,rfl,.nil,.nil,?_,?_⟩
 ·exact cur.keepsS (S := [w.heap.size,w.heap.size + 1]) (by repeat (first | exact Keeps.refl _ _ | refine Keeps.setCell' (.inr (by simp)) ?_)) (by simp;omega) (fun ad n c he h0 hm => by have := HOLD.out ad n c he h0;simp at hm;omega)
 ·exact Keeps.setCell' (.inl (by dsimp only;omega)) (Keeps.setCell' (.inl (by dsimp only;omega)) k0)

set_option maxHeartbeats 4000000 in
theorem decode_cyes (p k : Nat) (v : Value) (B : List Int) (w : World) (hc : Cur w p v B k) (hE : numE B k 255 = 0) (hX : 0 < numX B k 255) (hb : byteE B (numK B k 255) = 0) (hw : byteX B (numK B k 255) = 1) {L : List Int} (hh : (codedR B (byteK B (numK B k 255)) (numX B k 255)).1 = .ok L) (hL : L.length ≤ 1000000) (ht : okW L = true) :
  Calls Tryz.prog 88 #[.pointer (some ⟨p,0,none⟩)] w (DecEnd w p v B (tOf L) 0 (codedR B (byteK B (numK B k 255)) (numX B k 255)).2) := by
 have hmf : ∀ (fn : Fn) (first cap : Array Value) (w : World),(Instr.makeFunc fn first cap).run Tryz.prog w = .ok (.func fn first cap) w := fun _ _ _ _ => rfl
 have hlp := hc.old.1
 have HOLD := Lib.hid hc.old.2
 have k0 : Keeps w (((w.alloc (.cells #[.slice none 0 0] 25)).alloc (.cells #[.int .i64 0] 33)).alloc (.cells #[.pointer (some ⟨p,0,none⟩)] 164)) [] := (((Keeps.refl w []).alloc _).alloc _).alloc _
 have bo := ((Blk.new w #[.slice none 0 0] 25).alloc (.cells #[.int .i64 0] 33)).alloc (.cells #[.pointer (some ⟨p,0,none⟩)] 164)
 have be := (Blk.new (w.alloc (.cells #[.slice none 0 0] 25)) #[.int .i64 0] 33).alloc (.cells #[.pointer (some ⟨p,0,none⟩)] 164)
 have br := Blk.new ((w.alloc (.cells #[.slice none 0 0] 25)).alloc (.cells #[.int .i64 0] 33)) #[.pointer (some ⟨p,0,none⟩)] 164
 simp only [World.size_alloc] at be br
 have HN := Lib.hid (rnumber_any p k 255 v B _ (hc.keeps k0) (by decide))
 have HB := Lib.hid (fun W (h : Cur W p v B (numK B k 255)) => wreadByte_any p _ v B W #[.pointer (some ⟨p,0,none⟩)] #[] _ _ (byte_any p (numK B k 255) v B W h))
 have hX' : (0 : Int) < ((numX B k 255 : Nat) : Int) := by omega
 have hXB : numX B k 255 ≤ 255 := by
  unfold numX
  split
  ·rename_i h
   unfold numE at h
   split at h
   ·cases h
   ·rename_i hq;unfold numE at hE;omega
  ·omega
 have HH := Lib.hid (fun W (h : Cur W p v B (byteK B (numK B k 255))) => rflow_any p _ (numX B k 255) v B W h (by have := hXB;omega))
 clear hc
 generalize hbx : byteX B (numK B k 255) = BX at *
 generalize byteE B (numK B k 255) = BE at *
 generalize byteK B (numK B k 255) = BK at *
 subst hb hw
 clear hbx
 generalize codedR B BK (numX B k 255) = CR at *
 generalize hgx : numX B k 255 = X at *
 generalize numK B k 255 = K at *
 generalize numE B k 255 = E at *
 subst hE
 clear hgx
 go_enter_defers Tryz.func88,Tryz.ntmps88
 go_wp2_with (first | (go_at_call 124;(refine HN.out.mono ?_;rintro e w1 ⟨he,-,cur1,k1⟩;obtain rfl := he rfl;replace bo := bo.keeps k1 (by simp;omega);replace be := be.keeps k1 (by simp;omega);replace br := br.keeps k1 (by simp;omega);obtain ⟨br0,-⟩ := br.one;have lbr := br.lt)) | (go_at_call 125;(refine (wis_yes (by simp [*]) 12 _).mono ?_;rintro e w2 ⟨rfl,rfl⟩)))
 have bx := Blk.new w1 #[.func (.func 126) #[.agg #[.pointer (some ⟨p,0,none⟩)]] #[],.func (.func 127) #[.agg #[.pointer (some ⟨p,0,none⟩)]] #[]] 166
 have kx := (Keeps.refl w1 []).alloc (.cells #[.func (.func 126) #[.agg #[.pointer (some ⟨p,0,none⟩)]] #[],.func (.func 127) #[.agg #[.pointer (some ⟨p,0,none⟩)]] #[]] 166)
 have HB1 := HB.out _ (cur1.keeps kx)
 replace bo := bo.keeps kx (by simp)
 replace be := be.keeps kx (by simp)
 replace k0 : Keeps w _ [p] := (((k0.mono (S' := [p]) (by simp)).trans k1 (fun j hj _ => hj)).then kx)
 clear cur1 br br0 kx k1 he HB HN
 generalize (w1.alloc (.cells #[.func (.func 126) #[.agg #[.pointer (some ⟨p,0,none⟩)]] #[],.func (.func 127) #[.agg #[.pointer (some ⟨p,0,none⟩)]] #[]] 166)) = W1 at *
 generalize w1.heap.size = G at *
 refine HB1.mono ?_
 rintro e w2 ⟨he,-,cur,k2⟩
 obtain rfl := he rfl
 replace bo := bo.keeps k2 (by simp;omega)
 replace be := be.keeps k2 (by simp;omega)
 replace bx := bx.keeps k2 (by simp;omega)
 replace k0 := k0.trans k2 (fun j hj _ => hj)
 have HH1 := HH.out _ cur
 obtain ⟨bx0,-⟩ := (⟨bx.cell 1,bx.frozen 1⟩ : _ ∧ _)
 simp only [List.getElem?_toArray,List.getElem?_cons_succ,List.getElem?_cons_zero] at bx0
 go_wp2_with (go_at_call 125;(refine (wis_yes (by simp) 12 _).mono ?_;rintro e w3 ⟨rfl,rfl⟩))
 refine HH1.mono ?_
 rintro e w4 ⟨k4,cur4,hcod⟩
 replace bo := bo.keeps k4 (by simp;omega)
 replace be := be.keeps k4 (by simp;omega)
 replace k0 := k0.trans k4 (fun j hj _ => hj)
 replace cur := cur4
 rw [hh] at hcod
 obtain ⟨r4,rfl,rd4,-⟩ := hcod
 obtain ⟨a4,n4,c4,rfl,-,-⟩ := rd4.form
 have HT := wtree_any _ _ w4 rd4 hL
 clear HH1 rd4 cur4
 go_wp2_with fail
 refine HT.mono ?_
 rintro e w5 ⟨k5,he,-⟩
 obtain ⟨v5,rfl,r5,f5⟩ := he ht
 have hs4 := k0.size
 have hlbb : w.heap.size + 2 ≤ w4.heap.size := by have := be.lt;omega
 replace bo := bo.keeps k5 (by simp)
 replace be := be.keeps k5 (by simp)
 replace k0 := k0.then k5
 replace cur := cur.keeps k5
 have hlb4 : Hid (w.heap.size + 2 ≤ w4.heap.size) := hlbb
 obtain ⟨a5,n5,c5,rfl,-,-⟩ := r5.form
 obtain ⟨e0,e1⟩ := be.one
 obtain ⟨o0,o1⟩ := bo.one
 have R1 := Lib.hid r5
 have F1 := Lib.hid f5
 have CU := Lib.hid cur
 have hlb := hlb4.out
 generalize vW L = V at *
 generalize tOf L = TO at *
 clear r5 f5 cur HT ht
 go_wp2_with fail
 refine leaves_cons (f := 107) (args := #[.pointer (some ⟨w.heap.size + 1,0,none⟩),.func (.func 123) #[] #[.pointer (some ⟨w.heap.size,0,none⟩)]]) (by simp) (by simp [go_sem]) ?_
 refine (wcaught_idle _ _ _).mono ?_
 rintro e u' w'' ⟨rfl,rfl,rfl⟩
 refine ⟨.tuple #[.slice a5 n5 c5,.int .i64 0],by simp only [results,Tryz.results88];go_simp,?_⟩
 refine ⟨_,rfl,R1.out.keepsS (S := [w.heap.size,w.heap.size + 1]) (by repeat (first | exact Keeps.refl _ _ | refine Keeps.setCell' (.inr (by simp)) ?_)) (fun ad m c he _ hm => ?_),F1.out.mono (by omega),?_,by repeat (first | exact k0 | refine Keeps.setCell' (.inl (by dsimp only;omega)) ?_)⟩
 ·have := F1.out ad m c he
  simp at hm
  omega
 ·exact CU.out.keepsS (S := [w.heap.size,w.heap.size + 1]) (by repeat (first | exact Keeps.refl _ _ | refine Keeps.setCell' (.inr (by simp)) ?_)) (by simp;omega) (fun ad n c he h0 hm => by have := HOLD.out ad n c he h0;simp at hm;omega)
end

section
open Go.RowKit
end

section
open Go.RowKit
end

section
open Go.RowKit
end

section
open Go.RowKit
end

section
open Go.RowKit
end

section
open Go.RowKit

theorem bytesX_le {B : List Int} {k : Nat} {m : Int} : (bytesX B k m).length ≤ B.length := by
 unfold bytesX
 split
 ·rw [List.length_take,List.length_drop];omega
 ·simp
end

section
open Go.RowKit

def BtEnd (w : World) (l : List Int) (n : Int) (e : Ending) (w' : World) : Prop := ∃ v,e = .returned (.tuple #[v,.int .i64 n]) ∧ RdI .u8 w' v l ∧ Fresh w.heap.size v ∧ Keeps w w' []

theorem okW_bound {l : List Int} (h : okW l = true) : ∀ x ∈ l,0 ≤ x ∧ x ≤ 11 := by
 intro x hx
 simp only [okW,Bool.and_eq_true] at h
 exact finM_iff.1 (List.all_eq_true.1 h.1.1.2 x hx)

theorem ways_any (w : World) : Calls Tryz.prog 110 #[] w fun e w' => e = .returned (.agg #[.func (.func 144) #[] #[],.func (.func 145) #[] #[]]) ∧ Keeps w w' [] := by
 go_enter Tryz.func110,Tryz.ntmps110
 go_wp2_with fail
 refine bodyPost_ret (v := .agg #[.func (.func 144) #[] #[],.func (.func 145) #[] #[]]) (by simp only [results,Tryz.results110];go_simp) rfl ⟨rfl,(Keeps.refl _ _).alloc _⟩
end

section
open Go.RowKit
end

section
open Go.RowKit
end

section
open Go.RowKit

def finW (L : List Int) (K : Nat) : Except Int (List Int × Nat) := if okW L = true then .ok (tOf L,K) else .error 12
def getW (B : List Int) (k : Nat) : Except Int (List Int × Nat) :=
 if numE B k 255 ≠ 0 then .error (numE B k 255) else
 if numX B k 255 = 0 then .error 12 else
 if B.length ≤ numK B k 255 then .error 3 else
 if byteX B (numK B k 255) = 0 then
  (if halvE B (numK B k 255 + 1) (numX B k 255) ≠ 0 then .error (halvE B (numK B k 255 + 1) (numX B k 255)) else
   finW (halvX B (numK B k 255 + 1) (numX B k 255)) (bytesK B (numK B k 255 + 1) (((numX B k 255 + 1) / 2 : Nat) : Int)))
 else if byteX B (numK B k 255) = 1 then
  (match (codedR B (numK B k 255 + 1) (numX B k 255)).1 with
   | .error n => .error n
   | .ok L => finW L (codedR B (numK B k 255 + 1) (numX B k 255)).2)
 else .error 12

theorem flowG_len {c : Nat → Cel} : ∀ {k : Nat} {R : List Bool} {now other : Nat} {out o : List Int},flowG c k R now other out = .ok o → o.length = out.length + k
 | 0,R,now,other,out,o,h => by
  unfold flowG at h
  split at h
  ·injection h with h
   rw [← h];rfl
  ·cases h
 | k + 1,R,now,other,out,o,h => by
  unfold flowG at h
  split at h
  ·split at h
   ·cases h
   ·have := flowG_len h
    simp only [List.length_append,List.length_singleton] at this
    omega
  ·have := flowG_len h
   simp only [List.length_append,List.length_singleton] at this
   omega
theorem flowD_len {g : Int} {norm B o : List Int} {n : Nat} (h : flowD g norm B n = .ok o) : o.length = n := by
 unfold flowD at h
 split at h
 ·cases h
 ·split at h
  ·cases h
  ·unfold flowP at h
   split at h
   ·cases h
   ·split at h
    ·cases h
    ·have := flowG_len h
     simpa using this
theorem codedR_len {B o : List Int} {k m : Nat} (h : (codedR B k m).1 = .ok o) : o.length = m := by
 unfold codedR at h
 split at h
 ·cases h
 ·split at h
  ·cases h
  ·split at h
   ·cases h
   ·exact flowD_len h
theorem numX_most {B : List Int} {k M : Nat} (h : numE B k M = 0) : numX B k M ≤ M := by
 unfold numX
 rw [if_pos h]
 unfold numE at h
 split at h
 ·cases h
 ·omega
def DecAll (w : World) (p : Nat) (v : Value) (B : List Int) (Z : Except Int (List Int × Nat)) (e : Ending) (w' : World) : Prop :=
 match Z with
 | .ok (L,K) => DecEnd w p v B L 0 K e w'
 | .error n => ∃ K,DecEnd w p v B [] n K e w'
theorem decode_any (p k : Nat) (v : Value) (B : List Int) (w : World) (hc : Cur w p v B k) :
  Calls Tryz.prog 88 #[.pointer (some ⟨p,0,none⟩)] w (DecAll w p v B (getW B k)) := by
 unfold getW
 by_cases h1 : numE B k 255 = 0
 ·rw [if_neg (by simpa using h1)]
  by_cases h2 : numX B k 255 = 0
  ·rw [if_pos h2]
   exact (decode_zero p k v B w hc h1 h2).mono fun e w' h => ⟨_,h⟩
  ·rw [if_neg h2]
   have hX : 0 < numX B k 255 := by omega
   by_cases h3 : B.length ≤ numK B k 255
   ·rw [if_pos h3]
    have hb : byteE B (numK B k 255) = 3 := by unfold byteE;rw [if_neg (by omega)]
    have := decode_byte p k v B w hc h1 hX (by rw [hb];decide)
    rw [hb] at this
    exact this.mono fun e w' h => ⟨_,h⟩
   ·rw [if_neg h3]
    have hb : byteE B (numK B k 255) = 0 := by unfold byteE;rw [if_pos (by omega)]
    have hk : byteK B (numK B k 255) = numK B k 255 + 1 := by unfold byteK;rw [if_pos (by omega)]
    by_cases h4 : byteX B (numK B k 255) = 0
    ·rw [if_pos h4]
     by_cases h5 : halvE B (numK B k 255 + 1) (numX B k 255) = 0
     ·rw [if_neg (by simpa using h5)]
      unfold finW
      cases ht : okW (halvX B (numK B k 255 + 1) (numX B k 255)) with
      | true =>
       rw [if_pos rfl]
       have := decode_yes p k v B w hc h1 hX hb h4 (by rw [hk];exact h5) (by rw [hk];exact ht)
       rw [hk] at this
       exact this
      | false =>
       rw [if_neg (by simp)]
       have := decode_tno p k v B w hc h1 hX hb h4 (by rw [hk];exact h5) (by rw [hk];exact ht)
       exact this.mono fun e w' h => ⟨_,h⟩
     ·rw [if_pos h5]
      have := decode_halv p k v B w hc h1 hX hb h4 (by rw [hk];exact h5)
      rw [hk] at this
      exact this.mono fun e w' h => ⟨_,h⟩
    ·rw [if_neg h4]
     by_cases h6 : byteX B (numK B k 255) = 1
     ·rw [if_pos h6]
      cases hh : (codedR B (numK B k 255 + 1) (numX B k 255)).1 with
      | error n =>
       have := decode_cod p k v B w hc h1 hX hb h6 (by rw [hk];exact hh)
       exact this.mono fun e w' h => ⟨_,h⟩
      | ok L =>
       have hl := codedR_len hh
       have hm := numX_most h1
       simp only
       unfold finW
       cases ht : okW L with
       | true =>
        rw [if_pos rfl]
        have := decode_cyes p k v B w hc h1 hX hb h6 (by rw [hk];exact hh) (by omega) ht
        rw [hk] at this
        exact this
       | false =>
        rw [if_neg (by simp)]
        have := decode_cno p k v B w hc h1 hX hb h6 (by rw [hk];exact hh) (by omega) ht
        exact this.mono fun e w' h => ⟨_,h⟩
     ·rw [if_neg h6]
      have hx := byteX_bound hc.byte (numK B k 255)
      have := decode_way p k v B w hc h1 hX hb (by omega)
      exact this.mono fun e w' h => ⟨_,h⟩
 ·rw [if_pos h1]
  exact (decode_num p k v B w hc h1).mono fun e w' h => ⟨_,h⟩

/-! Without a cursor. -/
end

section
open Go.RowKit

theorem tk_err {L : List Bool} {n : Nat} {e : Int} (h : tk L n = .error e) : e ≠ 0 := by
 unfold tk at h
 split at h
 ·cases h
 ·cases h;decide
theorem numP_err {L : List Bool} {m : Nat} {e : Int} (h : numP L m = .error e) : e ≠ 0 := by
 unfold numP at h
 cases ht : tk L m.log2 with
 | error x => rw [ht] at h;cases h;exact tk_err ht
 | ok x =>
  obtain ⟨t,L1⟩ := x
  rw [ht] at h
  simp only at h
  split at h
  ·cases h
  ·cases hc : tk L1 1 with
   | error y => rw [hc] at h;cases h;exact tk_err hc
   | ok y => rw [hc] at h;cases h
theorem zerosP_err {symbols : Nat} : ∀ {f : Nat} {L : List Bool} {out : List Int} {e : Int},1 ≤ f → symbols + 1 ≤ f + out.length → zerosP symbols f L out = .error e → e ≠ 0 := by
 intro f
 induction f with
 | zero => intro L out e h1;omega
 | succ f ih =>
  intro L out e h1 h2 h
  unfold zerosP at h
  split at h
  ·cases h;decide
  rename_i hs
  cases hk : tk L 2 with
  | error x => rw [hk] at h;cases h;exact tk_err hk
  | ok x =>
   obtain ⟨k,L1⟩ := x
   rw [hk] at h
   simp only at h
   split at h
   ·rename_i h3
    subst h3
    exact ih (by omega) (by simp only [List.length_append,List.length_replicate];omega) h
   ·cases h
theorem normsP_err {symbols : Nat} : ∀ {f : Nat} {L : List Bool} {left : Nat} {out : List Int} {ran : Bool} {e : Int},1 ≤ f → symbols + 1 ≤ f + out.length → normsP symbols f L left out ran = .error e → e ≠ 0 := by
 intro f
 induction f with
 | zero => intro L left out ran e h1;omega
 | succ f ih =>
  intro L left out ran e h1 h2 h
  unfold normsP at h
  split at h
  ·cases h
  split at h
  ·cases h;decide
  rename_i hs
  cases hk : numP L (left + 2) with
  | error x => rw [hk] at h;cases h;exact numP_err hk
  | ok x =>
   obtain ⟨v,L1⟩ := x
   rw [hk] at h
   simp only at h
   split at h
   ·cases h;decide
   split at h
   ·cases hz : zerosP symbols (symbols + 1) L1 (out ++ [(v : Int) - 1]) with
    | error y =>
     rw [hz] at h
     cases h
     exact zerosP_err (by omega) (by omega) hz
    | ok y =>
     obtain ⟨o,L2⟩ := y
     have hl := (zerosP_len hz).1
     simp only [List.length_append,List.length_cons,List.length_nil] at hl
     rw [hz] at h
     exact ih (by omega) (by omega) h
   ·exact ih (by omega) (by simp only [List.length_append,List.length_cons,List.length_nil];omega) h
theorem descP_err {D : List Int} {symbols : Nat} {log e : Int} (h : descP D symbols log = .error e) : e ≠ 0 := by
 unfold descP tabP at h
 cases ht : tk (rowBits D) 4 with
 | error x => rw [ht] at h;cases h;exact tk_err ht
 | ok x =>
  obtain ⟨n,L1⟩ := x
  rw [ht] at h
  simp only at h
  by_cases hb : log < (n : Int) + 1 ∨ 8 < n
  ·rw [if_pos hb] at h;cases h;decide
  ·rw [if_neg hb] at h
   cases hn : normsP symbols (symbols + 1) L1 (2 ^ (n + 1)) [] false with
   | error y => rw [hn] at h;cases h;exact normsP_err (by omega) (by simp only [List.length_nil];omega) hn
   | ok y =>
    obtain ⟨l,L2⟩ := y
    rw [hn] at h
    simp only [tabOf] at h
    split at h
    ·cases h
    ·cases h;decide
theorem tb_err {R : List Bool} {n : Nat} {e : Int} (h : tb R n = .error e) : e ≠ 0 := by
 unfold tb at h
 split at h
 ·cases h
 ·cases h;decide
theorem flowG_err {c : Nat → Cel} : ∀ {k : Nat} {R : List Bool} {now other : Nat} {out : List Int} {e : Int},flowG c k R now other out = .error e → e ≠ 0 := by
 intro k
 induction k with
 | zero =>
  intro R now other out e h
  unfold flowG at h
  split at h
  ·cases h
  ·cases h;decide
 | succ k ih =>
  intro R now other out e h
  unfold flowG at h
  split at h
  ·cases ht : tb R (c now).2.1 with
   | error x => rw [ht] at h;cases h;exact tb_err ht
   | ok x =>
    obtain ⟨v,R1⟩ := x
    rw [ht] at h
    exact ih h
  ·exact ih h
theorem ite_tb_err {p : Prop} [Decidable p] {R : List Bool} {n : Nat} {e : Int} (h : (if p then tb R n else .ok (0,R)) = .error e) : e ≠ 0 := by
 split at h
 ·exact tb_err h
 ·cases h
theorem flowD_err {g : Int} {norm B : List Int} {n : Nat} {e : Int} (h : flowD g norm B n = .error e) : e ≠ 0 := by
 unfold flowD at h
 split at h
 ·cases h;decide
 split at h
 ·cases h;decide
 unfold flowP at h
 split at h
 ·rename_i e1 h1
  cases h
  exact ite_tb_err h1
 ·rename_i a R1 h1
  split at h
  ·rename_i e1 h2
   cases h
   exact ite_tb_err h2
  ·exact flowG_err h
theorem codedR_err {B : List Int} {k m : Nat} {e : Int} (h : (codedR B k m).1 = .error e) : e ≠ 0 := by
 unfold codedR at h
 rcases hd : descP ((B.drop k).take 1024) 12 6 with x | ⟨g,norm,nb⟩
 ·rw [hd] at h;cases h;exact descP_err hd
 ·rw [hd] at h
  simp only at h
  by_cases h1 : numE B (k + nb) 131072 ≠ 0
  ·rw [if_pos h1] at h;cases h;exact h1
  ·rw [if_neg h1] at h
   by_cases h2 : bytesE B (numK B (k + nb) 131072) (numX B (k + nb) 131072 : Nat) ≠ 0
   ·rw [if_pos h2] at h;cases h;exact h2
   ·rw [if_neg h2] at h
    exact flowD_err h
theorem getW_err0 {B : List Int} {k : Nat} {e : Int} (h : getW B k = .error e) : e ≠ 0 := by
 have fin : ∀ {L : List Int} {K : Nat},finW L K = .error e → e ≠ 0 := fun {L K} hf => by
  unfold finW at hf
  split at hf
  ·cases hf
  ·cases hf;decide
 unfold getW at h
 split at h
 ·rename_i h1;cases h;exact h1
 split at h
 ·cases h;decide
 split at h
 ·cases h;decide
 split at h
 ·split at h
  ·rename_i h5;cases h;exact h5
  ·exact fin h
 split at h
 ·split at h
  ·rename_i x hx;cases h;exact codedR_err hx
  ·exact fin h
 ·cases h;decide
end

end Go.Proofs.YtcmagccfagijlaaGreat
