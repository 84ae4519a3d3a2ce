/-
  num.read at uint32: the deferred function that takes the cursor back; the call. (Printed by mkDI.py.)
  A cursor over bytes: Byte, Bytes. (Printed by mkVI.py.)
  A cursor over bytes: Word.
  Walks over package dict: Own, Equal, HasPrefix, marked, Raw; the reference: Marked, Plain.
  Walks over package dict: first, Raw; the reference's Plain.
  Walks over package dict: must, got, the first functions that full holds.
  Walks over package dict: full, where it ends with the number of the dictionary. (Printed by mkDL.py.)
  Walks over package dict: the deferred function of Get.
  A cursor over bytes: Varint, Number.
  A cursor over bytes: Number.
  Walks over package dict: Get, for a raw dictionary and where full panics.
  Walks over the reference of package dict: sameInts, the tables' Same, Same, where both are equal.
  Arrays of three numbers are compared.
-/
import Derived.Test.YtcmagccfagijlaaGreatQ5
import Derived.Test.YtcmagccfagijlaaGreatQ1
import Derived.Test.YtcmagccfagijlaaGreatQ2
import Derived.Shelf.Abstract
import Derived.Laws.BitsLemmas
import Derived.Lib.SlBytesConst
import Derived.Laws.EntriesVeiled
import Derived.Laws.Bits64b
import Derived.Test.YtcmagccfagijlaaGreatQ4
import Derived.Test.YtcmagccfagijlaaGreatRows
import Derived.ChangeKeysEq
namespace Go.Proofs.YtcmagccfagijlaaGreat
set_option linter.unusedVariables false
set_option linter.unusedSimpArgs false
set_option linter.unusedSectionVars false
set_option maxRecDepth 100000
section
open Go.RowKit

theorem backU32_ok (be bf bx bc : Nat) (u : FrameMode) (w : World) (he : Blk w be #[.int .i64 0] 33) :
  CallsD Tryz.prog 155 #[.pointer (some ⟨be,0,none⟩),.pointer (some ⟨bf,0,none⟩),.pointer (some ⟨bx,0,none⟩),.pointer (some ⟨bc,0,none⟩)] u w fun e u' w' => u' = u ∧ (e = .returned (.tuple #[]) ∧ w' = w) := by
 obtain ⟨e0,-⟩ := he.one
 go_enter_d Tryz.func155,Tryz.ntmps155
 go_wp2_with fail
 go_end0
 exact ⟨rfl,rfl⟩

theorem backU32_bad (be bf bx bc p : Nat) (n k : Int) (z : Value) (x0 x1 : Value) (hn : (n != 0) = true) (u : FrameMode) (w : World) (he : Blk w be #[.int .i64 n] 33) (hf : Blk w bf #[.int .i64 k] 3) (hx : Blk w bx #[z] 24)
  (hc : Blk w bc #[.pointer (some ⟨p,0,none⟩)] 71) (hp : Blk w p #[x0,x1] 127) (hxp : bx ≠ p) :
  CallsD Tryz.prog 155 #[.pointer (some ⟨be,0,none⟩),.pointer (some ⟨bf,0,none⟩),.pointer (some ⟨bx,0,none⟩),.pointer (some ⟨bc,0,none⟩)] u w fun e u' w' => u' = u ∧ (e = .returned (.tuple #[]) ∧ w' = (w.setCell ⟨bx,0,none⟩ (.int .u32 0)).setCell ⟨p,1,none⟩ (.int .i64 k)) := by
 obtain ⟨e0,-⟩ := he.one
 obtain ⟨f0,-⟩ := hf.one
 obtain ⟨z0,z1⟩ := hx.one
 obtain ⟨c0,-⟩ := hc.one
 have p1 := hp.cell 1
 have p2 := hp.frozen 1
 simp at p1
 have hpx := hxp.symm
 clear he hf hx hc hp
 go_enter_d Tryz.func155,Tryz.ntmps155
 go_wp2_with fail
 go_end0
 exact ⟨rfl,rfl⟩

set_option maxHeartbeats 2000000 in
theorem readU32_any (p k k' : Nat) (v : Value) (B : List Int) (w : World) (lb : Array Value) (x : Int) (n : Int) (hc : Cur w p v B k)
  (hg : ∀ w1,Keeps w w1 [] → Calls Tryz.prog 121 lb w1 (CurEnd w1 p v B (.int .u32 x) n k')) :
  Calls Tryz.prog 120 #[.pointer (some ⟨p,0,none⟩),.func (.func 121) #[] lb] w (CurEnd w p v B (.int .u32 (if n = 0 then x else 0)) n (if n = 0 then k' else k)) := by
 have hmf : ∀ (fn : Fn) (first cap : Array Value) (w : World),(Instr.makeFunc fn first cap).run Tryz.prog w = .ok (.func fn first cap) w := fun _ _ _ _ => rfl
 have HG := Lib.hid hg
 obtain ⟨XO,hXO⟩ : ∃ XO,XO = (if n = 0 then x else 0) := ⟨_,rfl⟩
 obtain ⟨KO,hKO⟩ : ∃ KO,KO = (if n = 0 then k' else k) := ⟨_,rfl⟩
 rw [← hXO,← hKO]
 have HXO := Lib.hid hXO
 have HKO := Lib.hid hKO
 clear hXO hKO
 have HC := Lib.hid hc
 obtain ⟨c0,c1,f1⟩ := hc.cells
 obtain ⟨hlp,hlv⟩ := hc.old
 have HLV := Lib.hid hlv
 have hkB := Lib.hid hc.le
 clear hc hg hlv
 go_enter_defers Tryz.func120,Tryz.ntmps120
 go_wp2_with fail
 have k0 : Keeps w ((((w.alloc (.cells #[.pointer (some ⟨p,0,none⟩)] 71)).alloc (.cells #[.int .u32 0] 24)).alloc (.cells #[.int .i64 0] 33)).alloc (.cells #[.int .i64 (k : Int)] 3)) [] := ((((Keeps.refl w []).alloc _).alloc _).alloc _).alloc _
 have q0 := (((Blk.new w #[.pointer (some ⟨p,0,none⟩)] 71).alloc (.cells #[.int .u32 0] 24)).alloc (.cells #[.int .i64 0] 33)).alloc (.cells #[.int .i64 (k : Int)] 3)
 have q1 := ((Blk.new (w.alloc (.cells #[.pointer (some ⟨p,0,none⟩)] 71)) #[.int .u32 0] 24).alloc (.cells #[.int .i64 0] 33)).alloc (.cells #[.int .i64 (k : Int)] 3)
 have q2 := (Blk.new ((w.alloc (.cells #[.pointer (some ⟨p,0,none⟩)] 71)).alloc (.cells #[.int .u32 0] 24)) #[.int .i64 0] 33).alloc (.cells #[.int .i64 (k : Int)] 3)
 have q3 := Blk.new (((w.alloc (.cells #[.pointer (some ⟨p,0,none⟩)] 71)).alloc (.cells #[.int .u32 0] 24)).alloc (.cells #[.int .i64 0] 33)) #[.int .i64 (k : Int)] 3
 simp only [World.size_alloc] at q1 q2 q3
 have hsz : ((((w.alloc (.cells #[.pointer (some ⟨p,0,none⟩)] 71)).alloc (.cells #[.int .u32 0] 24)).alloc (.cells #[.int .i64 0] 33)).alloc (.cells #[.int .i64 (k : Int)] 3)).heap.size = w.heap.size + 4 := by simp
 have HG0 := Lib.hid (HG.out _ k0)
 clear HG c0 c1 f1
 generalize ((((w.alloc (.cells #[.pointer (some ⟨p,0,none⟩)] 71)).alloc (.cells #[.int .u32 0] 24)).alloc (.cells #[.int .i64 0] 33)).alloc (.cells #[.int .i64 (k : Int)] 3)) = W0 at *
 refine HG0.out.mono ?_
 rintro e w1 ⟨rfl,cur1,k1⟩
 skip
 have n0 : w.heap.size ≠ p := by omega
 have n1 : w.heap.size + 1 ≠ p := by omega
 have n2 : w.heap.size + 1 + 1 ≠ p := by omega
 have n3 : w.heap.size + 1 + 1 + 1 ≠ p := by omega
 replace q0 := q0.keeps k1 (by simp;omega)
 replace q1 := q1.keeps k1 (by simp;omega)
 replace q2 := q2.keeps k1 (by simp;omega)
 replace q3 := q3.keeps k1 (by simp;omega)
 replace k0 : Keeps w w1 [p] := (k0.mono (by simp)).trans k1 (fun j hj _ => hj)
 have hs1 := k1.size
 clear k1 HG0
 obtain ⟨x1,x2⟩ := q1.one
 obtain ⟨e1,e2⟩ := q2.one
 have NC := Lib.hid cur1
 clear cur1
 go_wp2_with fail
 have b1 : Blk ((w1.setCell ⟨w.heap.size + 1,0,none⟩ ((.int .u32 x))).setCell ⟨w.heap.size + 1 + 1,0,none⟩ (.int .i64 n)) (w.heap.size + 1) #[(.int .u32 x)] 24 := (q1.set 0 ((.int .u32 x))).setOther (by simp) _
 have b2 : Blk ((w1.setCell ⟨w.heap.size + 1,0,none⟩ ((.int .u32 x))).setCell ⟨w.heap.size + 1 + 1,0,none⟩ (.int .i64 n)) (w.heap.size + 1 + 1) #[.int .i64 n] 33 := (q2.setOther (by simp) _).set 0 (.int .i64 n)
 have b0 : Blk ((w1.setCell ⟨w.heap.size + 1,0,none⟩ ((.int .u32 x))).setCell ⟨w.heap.size + 1 + 1,0,none⟩ (.int .i64 n)) w.heap.size #[.pointer (some ⟨p,0,none⟩)] 71 := (q0.setOther (by dsimp only;omega) _).setOther (by dsimp only;omega) _
 have b3 : Blk ((w1.setCell ⟨w.heap.size + 1,0,none⟩ ((.int .u32 x))).setCell ⟨w.heap.size + 1 + 1,0,none⟩ (.int .i64 n)) (w.heap.size + 1 + 1 + 1) #[.int .i64 (k : Int)] 3 := (q3.setOther (by dsimp only;omega) _).setOther (by dsimp only;omega) _
 have kk : Keeps w ((w1.setCell ⟨w.heap.size + 1,0,none⟩ ((.int .u32 x))).setCell ⟨w.heap.size + 1 + 1,0,none⟩ (.int .i64 n)) [p] := (k0.setCell (.inl (by dsimp only;omega)) _).setCell (.inl (by dsimp only;omega)) _
 have ks : Keeps w1 ((w1.setCell ⟨w.heap.size + 1,0,none⟩ ((.int .u32 x))).setCell ⟨w.heap.size + 1 + 1,0,none⟩ (.int .i64 n)) [w.heap.size + 1,w.heap.size + 1 + 1] := ((Keeps.refl w1 _).setCell (.inr (by simp)) _).setCell (.inr (by simp)) _
 have curA : Cur ((w1.setCell ⟨w.heap.size + 1,0,none⟩ ((.int .u32 x))).setCell ⟨w.heap.size + 1 + 1,0,none⟩ (.int .i64 n)) p v B k' := NC.out.keepsS ks (by simp;omega) (fun ad n' c he h0 hm => by have := HLV.out ad n' c he h0;simp at hm;omega)
 skip
 have sz : ((w1.setCell ⟨w.heap.size + 1,0,none⟩ ((.int .u32 x))).setCell ⟨w.heap.size + 1 + 1,0,none⟩ (.int .i64 n)).heap.size = w1.heap.size := by simp
 clear q0 q1 q2 q3 x1 x2 e1 e2 k0 NC ks
 refine leaves_cons (f := 155) (args := #[.pointer (some ⟨w.heap.size + 1 + 1,0,none⟩),.pointer (some ⟨w.heap.size + 1 + 1 + 1,0,none⟩),.pointer (some ⟨w.heap.size + 1,0,none⟩),.pointer (some ⟨w.heap.size,0,none⟩)]) (by simp) (by simp [go_sem]) ?_
 by_cases hn : n = 0
 ·subst hn
  refine (backU32_ok _ _ _ _ _ _ b2).mono ?_
  rintro e u' w'' ⟨rfl,rfl,rfl⟩
  obtain ⟨x1,-⟩ := b1.one
  obtain ⟨e1,-⟩ := b2.one
  refine ⟨.tuple #[(.int .u32 x),.int .i64 0],by simp only [results,Tryz.results120];go_simp,?_⟩
  have g1 := HXO.out
  have g2 := HKO.out
  rw [if_pos rfl] at g1 g2
  subst g1 g2
  exact ⟨rfl,curA,kk⟩
 ·have hn' : (n != 0) = true := by simp [hn]
  obtain ⟨cv,-⟩ : ∃ cv,cv = v := ⟨_,rfl⟩
  refine (backU32_bad _ _ _ _ p n k _ _ _ hn' _ _ b2 b3 b1 b0 curA.blk n1).mono ?_
  rintro e u' w'' ⟨rfl,rfl,rfl⟩
  have c1 : Blk ((((w1.setCell ⟨w.heap.size + 1,0,none⟩ ((.int .u32 x))).setCell ⟨w.heap.size + 1 + 1,0,none⟩ (.int .i64 n)).setCell ⟨w.heap.size + 1,0,none⟩ (.int .u32 0)).setCell ⟨p,1,none⟩ (.int .i64 (k : Int))) (w.heap.size + 1) #[.int .u32 0] 24 := (b1.set 0 (.int .u32 0)).setOther (by dsimp only;omega) _
  have c2 : Blk ((((w1.setCell ⟨w.heap.size + 1,0,none⟩ ((.int .u32 x))).setCell ⟨w.heap.size + 1 + 1,0,none⟩ (.int .i64 n)).setCell ⟨w.heap.size + 1,0,none⟩ (.int .u32 0)).setCell ⟨p,1,none⟩ (.int .i64 (k : Int))) (w.heap.size + 1 + 1) #[.int .i64 n] 33 := (b2.setOther (by dsimp only;omega) _).setOther (by dsimp only;omega) _
  have ks2 : Keeps ((w1.setCell ⟨w.heap.size + 1,0,none⟩ ((.int .u32 x))).setCell ⟨w.heap.size + 1 + 1,0,none⟩ (.int .i64 n)) (((w1.setCell ⟨w.heap.size + 1,0,none⟩ ((.int .u32 x))).setCell ⟨w.heap.size + 1 + 1,0,none⟩ (.int .i64 n)).setCell ⟨w.heap.size + 1,0,none⟩ (.int .u32 0)) [w.heap.size + 1] := (Keeps.refl ((w1.setCell ⟨w.heap.size + 1,0,none⟩ ((.int .u32 x))).setCell ⟨w.heap.size + 1 + 1,0,none⟩ (.int .i64 n)) _).setCell (.inr (by simp)) _
  have curB : Cur ((((w1.setCell ⟨w.heap.size + 1,0,none⟩ ((.int .u32 x))).setCell ⟨w.heap.size + 1 + 1,0,none⟩ (.int .i64 n)).setCell ⟨w.heap.size + 1,0,none⟩ (.int .u32 0)).setCell ⟨p,1,none⟩ (.int .i64 (k : Int))) p v B k := (curA.keepsS ks2 (by simp;omega) (fun ad n' c he h0 hm => by have := HLV.out ad n' c he h0;simp at hm;omega)).set hkB.out
  have kf : Keeps w ((((w1.setCell ⟨w.heap.size + 1,0,none⟩ ((.int .u32 x))).setCell ⟨w.heap.size + 1 + 1,0,none⟩ (.int .i64 n)).setCell ⟨w.heap.size + 1,0,none⟩ (.int .u32 0)).setCell ⟨p,1,none⟩ (.int .i64 (k : Int))) [p] := (kk.setCell (.inl (by dsimp only;omega)) _).setCell (.inr (by simp)) _
  obtain ⟨x1,-⟩ := c1.one
  obtain ⟨e1,-⟩ := c2.one
  refine ⟨.tuple #[.int .u32 0,.int .i64 n],by simp only [results,Tryz.results120];go_simp,?_⟩
  have g1 := HXO.out
  have g2 := HKO.out
  rw [if_neg hn] at g1 g2
  subst g1 g2
  exact ⟨rfl,curB,kf⟩
end

section
open Go.RowKit

theorem slice_part {w0 : World} {v : Value} {B : List Int} (h : RdI .u8 w0 v B) {i j : Nat} (hij : i ≤ j) (hj : j ≤ B.length) :
  ∃ r,(∀ w,(Instr.slice 22 v (some (.int .i64 (i : Int))) (some (.int .i64 (j : Int))) none).run Tryz.prog w = .ok r w) ∧ RdI .u8 w0 r ((B.drop i).take (j - i)) ∧
   (∀ (ad : Addr) (n' c' : Nat),r = .slice (some ad) n' c' → 0 < n' → ∃ ad' n c,v = .slice (some ad') n c ∧ 0 < n ∧ ad.block = ad'.block) := by
 obtain ⟨i0,hi,hz0,hz1,hz2⟩ := info_parts Tryz.infoByte
 obtain ⟨ad,n,c,rfl,hn,hh⟩ := h.form
 have hcap := h.cap
 have run : ∀ w,(Instr.slice 22 (.slice ad n c) (some (.int .i64 (i : Int))) (some (.int .i64 (j : Int))) none).run Tryz.prog w = .ok (.slice (if i < c then ad.map (·.add i) else ad) (j - i) (c - i)) w := by
  intro w
  have a1 : i ≤ c := by omega
  have a2 : j ≤ c := by omega
  cases ad with
  | none =>
   obtain ⟨rfl,rfl,rfl⟩ := h.nilcap
   obtain rfl : i = 0 := by simp at hn;omega
   obtain rfl : j = 0 := by omega
   simp [Instr.slice,Instr.sliceBounds,Instr.sliceBound,asIntOf,run_underlying Tryz.underlying22,go_sem,sizeOf,typeInfo,hi,hz1]
  | some a =>
   by_cases hic : i < c
   ·have a3 : ¬ c = i := by omega
    simp [Instr.slice,Instr.sliceBounds,Instr.sliceBound,asIntOf,run_underlying Tryz.underlying22,go_sem,sizeOf,typeInfo,hi,hz1,hij,a2,a3,hic]
   ·obtain rfl : i = c := by omega
    obtain rfl : i = j := by omega
    simp [Instr.slice,Instr.sliceBounds,Instr.sliceBound,asIntOf,run_underlying Tryz.underlying22,go_sem,sizeOf,typeInfo,hi,hz1]
 refine ⟨_,run,?_,?_⟩
 rotate_left
 ·intro a n' c' he h0
  injection he with g1 g2 g3
  cases ad with
  | none => exfalso;split at g1 <;> simp at g1
  | some A =>
   refine ⟨A,n,c,rfl,by omega,?_⟩
   split at g1 <;> · simp at g1;rw [← g1];first | done | (simp [Addr.add];split <;> rfl)
 by_cases he : j - i = 0
 ·rw [he,List.take_zero]
  cases ad with
  | none =>
   obtain ⟨rfl,rfl,rfl⟩ := h.nilcap
   have : (0 : Nat) - i = 0 := by omega
   rw [this]
   simp
   exact .nil
  | some a => split <;> exact .zero _ _
 ·obtain ⟨b,o,rfl,-,-⟩ := h.addr (by omega)
  rw [if_pos (by omega)]
  have e : Option.map (fun x : Addr => x.add i) (some ⟨b,o,none⟩) = some ⟨b,o + i,none⟩ := by simp [Addr.add]
  rw [e]
  exact h.piece (p := i) (q := j - i) (by omega) (c - i) (by omega)

theorem hold4 {W w' w5 : World} {a b c d : Addr} {x y z u : Value} (h : w'.cell? a = some x ∧ w'.cell? b = some y ∧ w'.cell? c = some z ∧ w'.cell? d = some u ∧ Keeps W w' []) (la : a.block < W.heap.size) (lb : b.block < W.heap.size) (lc : c.block < W.heap.size) (ld : d.block < W.heap.size) (k : Keeps w' w5 []) :
  w5.cell? a = some x ∧ w5.cell? b = some y ∧ w5.cell? c = some z ∧ w5.cell? d = some u ∧ Keeps W w5 [] := by
 obtain ⟨h1,h2,h3,h4,h5⟩ := h
 have hs := h5.size
 exact ⟨(k.cell (by omega) (by simp)).trans h1,(k.cell (by omega) (by simp)).trans h2,(k.cell (by omega) (by simp)).trans h3,(k.cell (by omega) (by simp)).trans h4,h5.then k⟩

theorem byteE_iff (B : List Int) (k : Nat) : (if byteE B k = 0 then byteX B k else 0) = byteX B k ∧ (if byteE B k = 0 then byteK B k else k) = byteK B k := by
 unfold byteE byteX byteK
 by_cases h : k < B.length
 ·simp [h]
 ·simp [h,List.getElem?_eq_none (Nat.le_of_not_lt h)]

theorem byte_any (p k : Nat) (v : Value) (B : List Int) (w : World) (hc : Cur w p v B k) :
  Calls Tryz.prog 129 #[.pointer (some ⟨p,0,none⟩)] w (CurEnd w p v B (.int .u8 (byteX B k)) (byteE B k) (byteK B k)) := by
 have hp := hc.old.1
 have k0 : Keeps w (w.alloc (.cells #[.pointer (some ⟨p,0,none⟩)] 71)) [] := (Keeps.refl w []).alloc _
 have b0 := Blk.new w #[.pointer (some ⟨p,0,none⟩)] 71
 have h := readByte_any p k (byteK B k) v B (w.alloc (.cells #[.pointer (some ⟨p,0,none⟩)] 71)) #[.pointer (some ⟨w.heap.size,0,none⟩)] (byteX B k) (byteE B k) (hc.keeps k0)
  (fun w1 k1 => byte1_any p w.heap.size k v B w1 ((hc.keeps k0).keeps k1) (b0.keeps k1 (by simp)) (by omega))
 rw [(byteE_iff B k).1,(byteE_iff B k).2] at h
 have H := Lib.hid h
 clear h hc
 generalize byteX B k = X at *
 generalize byteE B k = E at *
 generalize byteK B k = K' at *
 go_enter Tryz.func129,Tryz.ntmps129
 go_wp2_with (refine H.out.mono ?_;rintro e w1 ⟨rfl,cur1,k1⟩)
 exact bodyPost_ret (v := .tuple #[.int .u8 X,.int .i64 E]) (by simp [results,Tryz.results129]) rfl ⟨rfl,cur1,(k0.mono (by simp)).trans k1 (fun j hj _ => hj)⟩

def bytesE (B : List Int) (k : Nat) (m : Int) : Int := if m < 0 then 2 else if (B.length : Int) - (k : Int) < m then 3 else 0
def bytesX (B : List Int) (k : Nat) (m : Int) : List Int := if bytesE B k m = 0 then (B.drop k).take m.toNat else []
def bytesK (B : List Int) (k : Nat) (m : Int) : Nat := if bytesE B k m = 0 then k + m.toNat else k

set_option maxHeartbeats 2000000 in
theorem bytes1_neg (p hn h k : Nat) (m : Int) (v : Value) (B : List Int) (w : World) (hc : Cur w p v B k) (hb : Blk w h #[.pointer (some ⟨p,0,none⟩)] 71) (hm : Blk w hn #[.int .i64 m] 3) (h0 : m < 0) :
  Calls Tryz.prog 136 #[.pointer (some ⟨hn,0,none⟩),.pointer (some ⟨h,0,none⟩)] w (CurB w p v B [] 2 k) := by
 have HC := Lib.hid hc
 obtain ⟨m0,-⟩ := hm.one
 clear hc hb hm
 go_enter Tryz.func136,Tryz.ntmps136
 go_wp2_with fail
 exact bodyPost_ret (v := .tuple #[.slice none 0 0,.int .i64 2]) (by simp [results,Tryz.results136]) rfl ⟨_,rfl,.nil,.nil,HC.out,Keeps.refl _ _⟩

set_option maxHeartbeats 2000000 in
theorem bytes1_short (p hn h k : Nat) (m : Int) (v : Value) (B : List Int) (w : World) (hc : Cur w p v B k) (hb : Blk w h #[.pointer (some ⟨p,0,none⟩)] 71) (hm : Blk w hn #[.int .i64 m] 3) (h0 : ¬ m < 0) (h1 : (B.length : Int) - (k : Int) < m) :
  Calls Tryz.prog 136 #[.pointer (some ⟨hn,0,none⟩),.pointer (some ⟨h,0,none⟩)] w (CurB w p v B [] 3 k) := by
 have HC := Lib.hid hc
 have HL := Lib.hid (fun n => left_any p k v B (w.drewN n) (hc.keeps ((Keeps.refl _ _).drewN n)))
 obtain ⟨m0,-⟩ := hm.one
 obtain ⟨d0,-⟩ := hb.one
 have d1 : decide (m < 0) = false := decide_eq_false h0
 clear hc hb hm
 go_enter Tryz.func136,Tryz.ntmps136
 go_wp2_with fail
 go_quiet ((go_at_call 98;exact Calls.quiet_of (HL.out _)))
 go_wp2_with fail
 exact bodyPost_ret (v := .tuple #[.slice none 0 0,.int .i64 3]) (by simp [results,Tryz.results136]) rfl ⟨_,rfl,.nil,.nil,HC.out.keeps ((Keeps.refl _ _).drewN nq),(Keeps.refl _ _).drewN nq⟩

set_option maxHeartbeats 4000000 in
theorem bytes1_ok (p hn h k : Nat) (m : Nat) (v : Value) (B : List Int) (w : World) (hc : Cur w p v B k) (hb : Blk w h #[.pointer (some ⟨p,0,none⟩)] 71) (hm : Blk w hn #[.int .i64 (m : Int)] 3) (hnp : hn ≠ p) (hhp : h ≠ p) (h1 : k + m ≤ B.length) :
  Calls Tryz.prog 136 #[.pointer (some ⟨hn,0,none⟩),.pointer (some ⟨h,0,none⟩)] w (CurB w p v B ((B.drop k).take m) 0 (k + m)) := by
 have HL := Lib.hid (fun n => left_any p k v B (w.drewN n) (hc.keeps ((Keeps.refl _ _).drewN n)))
 obtain ⟨m0,-⟩ := hm.one
 obtain ⟨d0,-⟩ := hb.one
 obtain ⟨c0,c1,f1⟩ := hc.cells
 have hlen := hc.len
 have d1 : decide ((m : Int) < 0) = false := decide_eq_false (by omega)
 have d2 : decide ((B.length : Int) - (k : Int) < (m : Int)) = false := decide_eq_false (by omega)
 have NC : Hid (∀ W,Keeps w W [] → Cur (W.setCell ⟨p,1,none⟩ (.int .i64 ((k : Int) + (m : Int)))) p v B (k + m)) := fun W kw => by
  have := (hc.keeps kw).set (k' := k + m) (by omega)
  simpa using this
 obtain ⟨r,hr0,rr,hpr0⟩ := slice_part hc.rd (i := k) (j := k + m) (by omega) (by omega)
 rw [Nat.add_sub_cancel_left] at rr
 have hr : ∀ w,(Instr.slice 22 v (some (.int .i64 (k : Int))) (some (.int .i64 ((k : Int) + (m : Int)))) none).run Tryz.prog w = .ok r w := fun w => by
  have := hr0 w
  rwa [Int.natCast_add] at this
 have HPR := Lib.hid (fun (ad : Addr) (n' c' : Nat) (he : r = .slice (some ad) n' c') (h0 : 0 < n') => (fun hm => by
  obtain ⟨ad',n1,c1,hv,hn1,hb1⟩ := hpr0 ad n' c' he h0
  have := hc.ne ad' n1 c1 hv hn1
  rw [List.mem_singleton] at hm
  rw [hb1] at hm
  exact this hm : ad.block ∉ [p]))
 have HLT := Lib.hid (And.intro hb.lt hm.lt)
 clear hr0 hpr0
 have hlr : ((B.drop k).take m).length ≤ 1000000 := by simp;omega
 generalize (B.drop k).take m = L at *
 have HLR := Lib.hid hlr
 clear hlr
 have hpn := hnp.symm
 have hph := hhp.symm
 obtain ⟨lp,-⟩ := hc.old
 obtain ⟨ad,n,c,rfl,hnn,-⟩ := hc.rd.form
 have HN := Lib.hid hnn
 have HNE := Lib.hid hc.ne
 clear hc hb hm hnn
 go_enter Tryz.func136,Tryz.ntmps136
 go_wp2_with fail
 go_quiet ((go_at_call 98;exact Calls.quiet_of (HL.out _)))
 go_wp2_with fail
 go_region
 have kW : Keeps w ((w.drewN (nq + 1)).setCell ⟨p,1,none⟩ (.int .i64 ((k : Int) + (m : Int)))) [p] := ((Keeps.refl _ _).drewN _).setCell (.inr (by simp)) _
 have NC1 := Lib.hid (NC.out _ ((Keeps.refl w []).drewN (nq + 1)))
 have RR1 := Lib.hid (rr.keepsS kW (HPR.out))
 have e1 := (kW.cell (p := ⟨h,0,none⟩) HLT.out.1 (by simpa using hhp)).trans d0
 have e2 := (kW.cell (p := ⟨hn,0,none⟩) HLT.out.2 (by simpa using hnp)).trans m0
 have l1 := Nat.lt_of_lt_of_le HLT.out.1 kW.size
 have l2 := Nat.lt_of_lt_of_le HLT.out.2 kW.size
 have l3 := Nat.lt_of_lt_of_le lp kW.size
 obtain ⟨e3,e4,-⟩ := NC1.out.cells
 rw [Int.natCast_add] at e4
 clear c0 c1 f1 d0 m0 NC rr
 generalize ((w.drewN (nq + 1)).setCell ⟨p,1,none⟩ (.int .i64 ((k : Int) + (m : Int)))) = W1 at *
 have HCL := Lib.hid (fun W' (k' : Keeps W1 W' []) => cloneb_any r _ W' (RR1.out.keeps k') HLR.out)
 have HR := Lib.hid hr
 have hwk : IntKind.i64.wrap (k : Int) = (k : Int) := IntWalk.i64_in _ ⟨by omega,by omega⟩
 clear hr
 go_wp2_with fail
 refine wp_region_held_drew (S := (fun w' => w'.cell? ⟨h,0,none⟩ = some (.pointer (some ⟨p,0,none⟩)) ∧ w'.cell? ⟨hn,0,none⟩ = some (.int .i64 (m : Int)) ∧ w'.cell? ⟨p,0,none⟩ = some (.slice ad n c) ∧ w'.cell? ⟨p,1,none⟩ = some (.int .i64 ((k : Int) + (m : Int))) ∧ Keeps W1 w' [])) (by kernel_rfl) ⟨e1,e2,e3,e4,(Keeps.refl _ _).drew⟩ (fun hHeld => ?_)
 refine takeM 0 rfl (by intro w hSw;(try dsimp only at hSw);go_simp;(try with_reducible rfl)) ?_
 try simp only [Act.put,stA,stZ,stS]
 refine takeM 1 rfl (by intro w hSw;(try dsimp only at hSw);go_simp;(try with_reducible rfl)) ?_
 try simp only [Act.put,stA,stZ,stS]
 refine takeM 2 rfl (by intro w hSw;(try dsimp only at hSw);go_simp;(try with_reducible rfl)) ?_
 try simp only [Act.put,stA,stZ,stS]
 refine takeM 3 rfl (by intro w hSw;(try dsimp only at hSw);go_simp;(try with_reducible rfl)) ?_
 try simp only [Act.put,stA,stZ,stS]
 refine takeM 4 rfl (by intro w hSw;(try dsimp only at hSw);go_simp;(try with_reducible rfl)) ?_
 try simp only [Act.put,stA,stZ,stS]
 refine takeM 5 rfl (by intro w hSw;(try dsimp only at hSw);go_simp;(try with_reducible rfl)) ?_
 try simp only [Act.put,stA,stZ,stS]
 refine takeM 6 rfl (by intro w hSw;(try dsimp only at hSw);go_simp;(try with_reducible rfl)) ?_
 try simp only [Act.put,stA,stZ,stS]
 refine takeM 7 rfl (by intro w hSw;(try dsimp only at hSw);go_simp;(try with_reducible rfl)) ?_
 try simp only [Act.put,stA,stZ,stS]
 refine takeM 8 rfl (by intro w hSw;(try dsimp only at hSw);go_simp;(try with_reducible rfl)) ?_
 try simp only [Act.put,stA,stZ,stS]
 refine takeM 9 rfl (by intro w hSw;(try dsimp only at hSw);go_simp;(try with_reducible rfl)) ?_
 try simp only [Act.put,stA,stZ,stS]
 refine takeM 10 rfl (by intro w hSw;(try dsimp only at hSw);go_simp;(try with_reducible rfl)) ?_
 try simp only [Act.put,stA,stZ,stS]
 refine takeM 11 rfl (by intro w hSw;(try dsimp only at hSw);go_simp;(try with_reducible rfl)) ?_
 try simp only [Act.put,stA,stZ,stS]
 refine takeM 12 rfl (by intro w hSw;(try dsimp only at hSw);go_simp;(try with_reducible rfl)) ?_
 try simp only [Act.put,stA,stZ,stS]
 refine takeM 13 rfl (by intro w hSw;(try dsimp only at hSw);go_simp;(try with_reducible rfl)) ?_
 try simp only [Act.put,stA,stZ,stS]
 refine takeM 14 rfl (by intro w hSw;(try dsimp only at hSw);have hr := HR.out;go_simp;(try with_reducible rfl)) ?_
 try simp only [Act.put,stA,stZ,stS]
 refine callL (i := 15) rfl (by kernel_rfl) (fun Kont hK => ?_)
 go_simp
 refine (HCL.out _ hHeld.2.2.2.2).mono ?_;rintro e w5 ⟨v5,rfl,own5,k5⟩;obtain ⟨a5,c5,rfl⟩ := own_form own5;have hsz5 := Lib.hid hHeld.2.2.2.2.size
 go_wp2_with fail
 refine hK.out _ _ ?_ (fun hHeld => ?_)
 ·(exact hold4 hHeld l1 l2 l3 l3 k5)
 clear hK Kont
 refine takeM 16 rfl (by intro w hSw;(try dsimp only at hSw);go_simp;(try with_reducible rfl)) ?_
 try simp only [Act.put,stA,stZ,stS]
 refine takeM 17 rfl (by intro w hSw;(try dsimp only at hSw);go_simp;(try with_reducible rfl)) ?_
 try simp only [Act.put,stA,stZ,stS]
 refine wpAnyH_done (by kernel_rfl) ?_ _
 go_wp2_with fail
 have kf := kW.trans hHeld.2.2.2.2 (fun j hj _ => by simp at hj)
 have R5 := Lib.hid (own_reads own5)
 have F5 := Lib.hid (own_freshB own5)
 have C5 := NC1.out.keeps hHeld.2.2.2.2
 have hs := kW.size
 have hs2 := hsz5.out
 exact bodyPost_ret (v := .tuple #[.slice a5 L.length c5,.int .i64 0]) (by simp [results,Tryz.results136]) rfl ⟨_,rfl,R5.out,F5.out.mono (by omega),C5,kf⟩

theorem bytes1_any (p hn h k : Nat) (m : Int) (v : Value) (B : List Int) (w : World) (hc : Cur w p v B k) (hb : Blk w h #[.pointer (some ⟨p,0,none⟩)] 71) (hm : Blk w hn #[.int .i64 m] 3) (hnp : hn ≠ p) (hhp : h ≠ p) :
  Calls Tryz.prog 136 #[.pointer (some ⟨hn,0,none⟩),.pointer (some ⟨h,0,none⟩)] w (CurB w p v B (bytesX B k m) (bytesE B k m) (bytesK B k m)) := by
 by_cases h0 : m < 0
 ·have e1 : bytesE B k m = 2 := by simp [bytesE,h0]
  rw [bytesX,bytesK,e1]
  exact bytes1_neg p hn h k m v B w hc hb hm h0
 ·by_cases h1 : (B.length : Int) - (k : Int) < m
  ·have e1 : bytesE B k m = 3 := by simp [bytesE,h0,h1]
   rw [bytesX,bytesK,e1]
   exact bytes1_short p hn h k m v B w hc hb hm h0 h1
  ·have e1 : bytesE B k m = 0 := by simp [bytesE,h0,h1]
   rw [bytesX,bytesK,e1]
   obtain ⟨M,rfl⟩ := Int.eq_ofNat_of_zero_le (show 0 ≤ m by omega)
   have := hc.le
   exact bytes1_ok p hn h k M v B w hc hb hm hnp hhp (by omega)

theorem bytesE_iff (B : List Int) (k : Nat) (m : Int) : (if bytesE B k m = 0 then bytesX B k m else []) = bytesX B k m ∧ (if bytesE B k m = 0 then bytesK B k m else k) = bytesK B k m := by
 unfold bytesX bytesK
 by_cases h : bytesE B k m = 0 <;> simp [h]

theorem bytes_any (p k : Nat) (m : Int) (v : Value) (B : List Int) (w : World) (hc : Cur w p v B k) :
  Calls Tryz.prog 96 #[.pointer (some ⟨p,0,none⟩),.int .i64 m] w (CurB w p v B (bytesX B k m) (bytesE B k m) (bytesK B k m)) := by
 have hp := hc.old.1
 have k0 : Keeps w ((w.alloc (.cells #[.pointer (some ⟨p,0,none⟩)] 71)).alloc (.cells #[.int .i64 m] 3)) [] := ((Keeps.refl w []).alloc _).alloc _
 have b0 := (Blk.new w #[.pointer (some ⟨p,0,none⟩)] 71).alloc (.cells #[.int .i64 m] 3)
 have b1 := Blk.new (w.alloc (.cells #[.pointer (some ⟨p,0,none⟩)] 71)) #[.int .i64 m] 3
 simp only [World.size_alloc] at b1
 have h := readBytes_any p k (bytesK B k m) v B ((w.alloc (.cells #[.pointer (some ⟨p,0,none⟩)] 71)).alloc (.cells #[.int .i64 m] 3)) #[.pointer (some ⟨w.heap.size + 1,0,none⟩),.pointer (some ⟨w.heap.size,0,none⟩)] (bytesX B k m) (bytesE B k m) (hc.keeps k0)
  (fun w1 k1 => bytes1_any p (w.heap.size + 1) w.heap.size k m v B w1 ((hc.keeps k0).keeps k1) (b0.keeps k1 (by simp)) (b1.keeps k1 (by simp)) (by omega) (by omega))
 rw [(bytesE_iff B k m).1,(bytesE_iff B k m).2] at h
 have H := Lib.hid h
 have hs0 := k0.size
 clear h hc
 generalize bytesX B k m = X at *
 generalize bytesE B k m = E at *
 generalize bytesK B k m = K' at *
 go_enter Tryz.func96,Tryz.ntmps96
 go_wp2_with (refine H.out.mono ?_;rintro e w1 ⟨r1,rfl,rd1,fr1,cur1,k1⟩)
 exact bodyPost_ret (v := .tuple #[r1,.int .i64 E]) (by simp [results,Tryz.results96]) rfl ⟨r1,rfl,rd1,fr1.mono hs0,cur1,(k0.mono (by simp)).trans k1 (fun j hj _ => hj)⟩
end

section
open Go.RowKit Go.Shelf

attribute [local go_sem] Oper.semAt_some

def wordP (ys : List (Nat × Int)) : Int := ys.foldl (fun a y => a * 256 + y.2) 0
def wordL (l : List Int) : Int := wordP (upto (backF l) l.length)
theorem wordP_snoc (ys : List (Nat × Int)) (y : Nat × Int) : wordP (ys ++ [y]) = wordP ys * 256 + y.2 := by simp [wordP]
theorem backF_byte {l : List Int} (h : ∀ x ∈ l,0 ≤ x ∧ x ≤ 255) (j : Nat) : 0 ≤ (backF l j).2 ∧ (backF l j).2 ≤ 255 := by
 unfold backF
 cases hx : l[l.length - 1 - j]? with
 | none => simp
 | some x => exact h x (List.mem_of_getElem? hx)
theorem wordP_bound {l : List Int} (h : ∀ x ∈ l,0 ≤ x ∧ x ≤ 255) : ∀ k : Nat,0 ≤ wordP (upto (backF l) k) ∧ wordP (upto (backF l) k) < 256 ^ k
 | 0 => by simp [upto,wordP]
 | k + 1 => by
  obtain ⟨h1,h2⟩ := wordP_bound h k
  have h3 := backF_byte h k
  rw [upto_succ,wordP_snoc,Int.pow_succ]
  omega

theorem backward_any (a : Option Addr) (n c : Nat) (w : World) : Calls Tryz.prog 122 #[.slice a n c] w fun e w' => e = .returned (.func (.func 156) #[] #[.pointer (some ⟨w.heap.size,0,none⟩)]) ∧ w' = w.alloc (.cells #[.slice a n c] 22) := by
 go_enter Tryz.func122,Tryz.ntmps122
 go_wp2_with fail
 go_ret
 exact ⟨rfl,rfl⟩

set_option maxHeartbeats 4000000 in
theorem word1_any (p h k : Nat) (v : Value) (B : List Int) (w : World) (hc : Cur w p v B k) (hb : Blk w h #[.pointer (some ⟨p,0,none⟩)] 71) (hhp : h ≠ p) :
  Calls Tryz.prog 121 #[.pointer (some ⟨h,0,none⟩)] w (CurEnd w p v B (.int .u32 (wordL (bytesX B k 4))) (bytesE B k 4) (bytesK B k 4)) := by
 have HB := Lib.hid (bytes_any p k 4 v B w hc)
 obtain ⟨d0,-⟩ := hb.one
 have hlp := hc.old.1
 have HOLD := Lib.hid hc.old.2
 have hlen : (bytesX B k 4).length ≤ 4 := by
  unfold bytesX
  split
  ·simp;omega
  ·simp
 have hby : ∀ x ∈ bytesX B k 4,0 ≤ x ∧ x ≤ 255 := fun x hx => hc.byte x (by
  unfold bytesX at hx
  split at hx
  ·exact List.mem_of_mem_drop (List.mem_of_mem_take hx)
  ·cases hx)
 have HWB := Lib.hid (wordP_bound hby)
 have HBF := Lib.hid (backF_byte hby)
 clear hc hb hby
 generalize bytesX B k 4 = L at *
 generalize bytesE B k 4 = E at *
 generalize bytesK B k 4 = K at *
 refine calls_of_marks Tryz.func121 rfl ?_
 simp only [Tryz.ntmps121,List.size_toArray,List.length_cons,List.length_nil,Nat.reduceAdd,Nat.reduceSub,Array.replicate_succ,Array.replicate_zero,List.push_toArray,List.append_toArray,List.nil_append,List.cons_append]
 go_wp2_with (first
  | (go_at_call 96;(refine HB.out.mono ?_;rintro e w1 ⟨r1,rfl,rd1,fr1,cur1,k1⟩;obtain ⟨a1,n1,c1,rfl,-,-⟩ := rd1.form))
  | (go_at_call 122;(refine (backward_any _ _ _ _).mono ?_;rintro e w2 ⟨rfl,rfl⟩)))
 have hs1 := k1.size
 have hbk : ∀ j ∈ blocksOf (.slice a1 n1 c1),w.heap.size ≤ j ∧ j < w1.heap.size := fun j hj => by
  cases a1 with
  | none => simp [blocksOf] at hj
  | some a =>
   by_cases h0 : 0 < n1
   ·simp [blocksOf,h0] at hj
    obtain ⟨b,o,he,hb,-⟩ := rd1.addr h0
    cases he
    subst hj
    exact ⟨fr1 _ _ _ rfl,hb⟩
   ·simp [blocksOf,h0] at hj
 have kz : Keeps w1 ((w1.alloc (.cells #[.int .u32 0] 24)).alloc (.cells #[.slice a1 n1 c1] 22)) [] := ((Keeps.refl w1 []).alloc _).alloc _
 have bn0 := (Blk.new w1 #[.int .u32 0] 24).alloc (.cells #[.slice a1 n1 c1] 22)
 have bs0 := Blk.new (w1.alloc (.cells #[.int .u32 0] 24)) #[.slice a1 n1 c1] 22
 simp only [World.size_alloc] at bs0
 have hsz : ((w1.alloc (.cells #[.int .u32 0] 24)).alloc (.cells #[.slice a1 n1 c1] 22)).heap.size = w1.heap.size + 2 := by simp
 have rdz := rd1.keeps kz
 have HBK := Lib.hid hbk
 clear rd1
 generalize ((w1.alloc (.cells #[.int .u32 0] 24)).alloc (.cells #[.slice a1 n1 c1] 22)) = Z at *
 obtain ⟨Y,hY⟩ : ∃ Y,Y = blocksOf (.slice a1 n1 c1) := ⟨_,rfl⟩
 have hseq := backY (w1.heap.size + 1) (.slice a1 n1 c1) L Z bs0 rdz (by omega)
 rw [← hY] at hseq hbk HBK
 have kY : Keeps w1 Z Y := kz.mono (by simp)
 clear hbk hY rdz kz bs0
 refine range_PY (gf := 156) (lb := #[.pointer (some ⟨w1.heap.size + 1,0,none⟩)]) rfl (enters_of Tryz.func156 (by kernel_rfl) rfl)
  hseq ?hX (fun _ => rfl) 0
  (fun pre W => ∃ j : Nat,pre = upto (backF L) j ∧ Blk W w1.heap.size #[.int .u32 (wordP pre)] 24 ∧ Keeps w1 W Y)
  (fun pre W => False)
  (fun W => Blk W w1.heap.size #[.int .u32 (wordL L)] 24 ∧ Keeps w1 W Y)
  ?hI ?hIx ?h0 ?hround ?hdone ?hstop ?hex ?hrest
 case hX =>
  intro j hj
  rcases List.mem_append.1 hj with hj | hj
  ·simp at hj;omega
  ·have := HBK.out j hj;omega
 case hI =>
  rintro s A B' ⟨j,hj,bn,ka⟩ hab
  rw [hsz] at hab
  refine ⟨j,hj,bn.keeps hab ?_,ka.trans hab (fun j hj hlt => ?_)⟩
  ·intro hm
   simp only [List.mem_append,List.mem_cons,List.not_mem_nil,or_false] at hm
   rcases hm with (hm | hm) | hm | hm
   ·omega
   ·have := HBK.out _ hm;omega
   ·omega
   ·omega
  ·simp only [List.mem_append,List.mem_cons,List.not_mem_nil,or_false] at hj
   rcases hj with (hj | hj) | hj | hj
   ·omega
   ·exact hj
   ·omega
   ·omega
 case hIx => exact fun s A B' h _ => h
 case hstop => exact fun pre X' _ h => h.elim
 case hex => exact fun a' W h => by simpa [Exit.inBlock,Exit.noGoto] using h
 case h0 => exact ⟨0,rfl,bn0,kY⟩
 case hdone =>
  rintro xs W hS ⟨j,hj,bn,ka⟩
  rw [hS] at bn
  exact ⟨bn,ka⟩
 case hround =>
  rintro l pre x W hl hlt hD hF ⟨j,rfl,bn,ka⟩ hsp
  obtain ⟨hjl,rfl⟩ := upto_next hsp
  subst hl
  rw [hsz] at hlt hD
  obtain ⟨q1,q2⟩ := HWB.out j
  obtain ⟨q3,q4⟩ := HBF.out j
  have hsn := wordP_snoc (upto (backF L) j) (backF L j)
  have h3 : (256 : Int) ^ j ≤ 16777216 := by
   have : j = 0 ∨ j = 1 ∨ j = 2 ∨ j = 3 := by omega
   rcases this with h | h | h | h <;> rw [h] <;> decide
  have q2' : wordP (upto (backF L) j) < 16777216 := by omega
  have HU := Lib.hid (upto_succ (backF L) j)
  generalize wordP (upto (backF L) j) = A at *
  clear q2 h3 HWB HBF hsp
  gi_wp2
  refine ⟨SameAt.refl _ _,fun W2 hT => ?_⟩
  rw [hsz] at hT
  have bn2 := hT.blk bn
  have ka2 : Keeps w1 W2 Y := ka.trans hT.keeps (fun j hj hlt => by simp at hj;omega)
  obtain ⟨cn,fn⟩ := bn2.one
  have hm1 : A * 256 % 4294967296 = A * 256 := by omega
  have hm2 : IntKind.u32.wrap (A * 256) = A * 256 := by rw [IntKind.wrap_u32];omega
  have hm3 : (backF L j).2 % 4294967296 = (backF L j).2 := by omega
  have hor : bits BinOp.or IntKind.u32 (A * 256) (backF L j).2 = A * 256 + (backF L j).2 := bits_join .u32 32 (by decide) (fun n h0 h1 => by rw [IntKind.wrap_u32];omega) 8 _ _ (by omega) (by omega) (by omega) q3 (by omega) (by omega)
  have HSN := Lib.hid hsn
  have BN2 := Lib.hid bn2
  clear hsn bn2 bn hT
  gi_wp2
  try rw [hm3]
  try rw [hor]
  rw [← HSN.out]
  have NB := BN2.out.set 0 (.int .u32 (wordP (upto (backF L) j ++ [backF L j])))
  refine ⟨fun k' hk' => Below.heap_setCell W2 _ _ k' ?_,j + 1,HU.out.symm,NB,ka2.setCell (.inl (Nat.le_refl _)) _⟩
  dsimp only
  simp only [List.mem_append,List.mem_cons,List.not_mem_nil,or_false,hsz] at hk'
  rcases hk' with (hk' | hk') | hk' | hk'
  ·omega
  ·have := HBK.out _ hk';omega
  ·omega
  ·omega
 case hrest =>
  rintro D X' hD hK ⟨bn,ka⟩
  obtain ⟨cn,-⟩ := bn.one
  simp only [Exit.inBlock,Exit.then]
  have HW := Lib.hid (rfl : wordL L = wordL L)
  generalize wordL L = WL at *
  go_wp2_with fail
  refine ⟨by simp,.inl ⟨_,_,rfl,run_takeDeferred hK,?_⟩⟩
  rw [hsz] at hD
  have kp : Keeps X' (X'.putObj D (.deferred none)) [D] := keeps_put
  have kq : Keeps w1 (X'.putObj D (.deferred none)) Y := ka.trans kp (fun j hj hlt => by simp at hj;omega)
  refine ⟨.tuple #[.int .u32 WL,.int .i64 E],by simp [results,Tryz.results121],rfl,?_,?_⟩
  ·refine cur1.keepsS kq (fun hm => by have := HBK.out _ hm;omega) (fun ad n' c' he h0 hm => ?_)
   have := HOLD.out ad n' c' he h0
   have := HBK.out _ hm
   omega
  ·exact k1.trans kq (fun j hj hlt => by have := HBK.out _ hj;omega)

theorem wordE_iff (B : List Int) (k : Nat) : (if bytesE B k 4 = 0 then wordL (bytesX B k 4) else 0) = wordL (bytesX B k 4) := by
 by_cases h : bytesE B k 4 = 0
 ·rw [if_pos h]
 ·rw [if_neg h,bytesX,if_neg h];rfl

theorem word_any (p k : Nat) (v : Value) (B : List Int) (w : World) (hc : Cur w p v B k) :
  Calls Tryz.prog 84 #[.pointer (some ⟨p,0,none⟩)] w (CurEnd w p v B (.int .u32 (wordL (bytesX B k 4))) (bytesE B k 4) (bytesK B k 4)) := by
 have hp := hc.old.1
 have k0 : Keeps w (w.alloc (.cells #[.pointer (some ⟨p,0,none⟩)] 71)) [] := (Keeps.refl w []).alloc _
 have b0 := Blk.new w #[.pointer (some ⟨p,0,none⟩)] 71
 have h := readU32_any p k (bytesK B k 4) v B (w.alloc (.cells #[.pointer (some ⟨p,0,none⟩)] 71)) #[.pointer (some ⟨w.heap.size,0,none⟩)] (wordL (bytesX B k 4)) (bytesE B k 4) (hc.keeps k0)
  (fun w1 k1 => word1_any p w.heap.size k v B w1 ((hc.keeps k0).keeps k1) (b0.keeps k1 (by simp)) (by omega))
 rw [wordE_iff,(bytesE_iff B k 4).2] at h
 have H := Lib.hid h
 clear h hc
 generalize wordL (bytesX B k 4) = X at *
 generalize bytesE B k 4 = E at *
 generalize bytesK B k 4 = K' at *
 go_enter Tryz.func84,Tryz.ntmps84
 go_wp2_with (refine H.out.mono ?_;rintro e w1 ⟨rfl,cur1,k1⟩)
 exact bodyPost_ret (v := .tuple #[.int .u32 X,.int .i64 E]) (by simp [results,Tryz.results84]) rfl ⟨rfl,cur1,(k0.mono (by simp)).trans k1 (fun j hj _ => hj)⟩
end

section
open Go.RowKit

theorem strOfNums_inj {a b : List Int} (ha : ∀ x ∈ a,0 ≤ x ∧ x ≤ 255) (hb : ∀ x ∈ b,0 ≤ x ∧ x ≤ 255) (h : strOfNums a = strOfNums b) : a = b := by
 have h2 : a.map (fun n => UInt8.ofNat n.toNat) = b.map (fun n => UInt8.ofNat n.toNat) := by
  have := congrArg (fun s => s.data.toList) h
  simpa [strOfNums] using this
 have hl : a.length = b.length := by simpa using congrArg List.length h2
 apply List.ext_getElem hl
 intro i h3 h4
 have h5 := congrArg (fun l => l[i]?) h2
 simp only [List.getElem?_map,List.getElem?_eq_getElem h3,List.getElem?_eq_getElem h4,Option.map_some,Option.some.injEq] at h5
 have e1 := ha a[i] (List.getElem_mem h3)
 have e2 := hb b[i] (List.getElem_mem h4)
 have h6 := congrArg UInt8.toNat h5
 simp at h6
 omega

theorem str_beq {a b : List Int} (ha : ∀ x ∈ a,0 ≤ x ∧ x ≤ 255) (hb : ∀ x ∈ b,0 ≤ x ∧ x ≤ 255) : ((strOfNums a).toList == (strOfNums b).toList) = decide (a = b) := by
 by_cases h : a = b
 ·subst h;simp
 ·rw [decide_eq_false h,beq_eq_false_iff_ne]
  intro e
  rw [ByteArray.toList_eq,ByteArray.toList_eq] at e
  exact h (strOfNums_inj ha hb (ByteArray.ext (Array.toList_inj.1 e)))

theorem slice_head {w0 : World} {v : Value} {B : List Int} (h : RdI .u8 w0 v B) {j : Nat} (hj : j ≤ B.length) :
  ∃ r,(∀ w,(Instr.slice 22 v none (some (.int .i64 (j : Int))) none).run Tryz.prog w = .ok r w) ∧ RdI .u8 w0 r (B.take j) := by
 obtain ⟨i0,hi,hz0,hz1,hz2⟩ := info_parts Tryz.infoByte
 obtain ⟨ad,n,c,rfl,hn,hh⟩ := h.form
 have hcap := h.cap
 have run : ∀ w,(Instr.slice 22 (.slice ad n c) none (some (.int .i64 (j : Int))) none).run Tryz.prog w = .ok (.slice ad j c) w := by
  intro w
  have a2 : j ≤ c := by omega
  cases ad with
  | none =>
   obtain ⟨rfl,rfl,rfl⟩ := h.nilcap
   obtain rfl : j = 0 := by simp at hj;omega
   simp [Instr.slice,Instr.sliceBounds,Instr.sliceBound,asIntOf,run_underlying Tryz.underlying22,go_sem,sizeOf,typeInfo,hi,hz1]
  | some a =>
   by_cases hc : c = 0
   ·subst hc
    obtain rfl : j = 0 := by omega
    simp [Instr.slice,Instr.sliceBounds,Instr.sliceBound,asIntOf,run_underlying Tryz.underlying22,go_sem,sizeOf,typeInfo,hi,hz1]
   ·simp [Instr.slice,Instr.sliceBounds,Instr.sliceBound,asIntOf,run_underlying Tryz.underlying22,go_sem,sizeOf,typeInfo,hi,hz1,a2,hc,Addr.add]
 refine ⟨_,run,?_⟩
 by_cases h0 : j = 0
 ·subst h0
  rw [List.take_zero]
  cases ad with
  | none =>
   obtain ⟨rfl,rfl,rfl⟩ := h.nilcap
   exact .nil
  | some a => exact .zero _ _
 ·obtain ⟨b,o,rfl,-,-⟩ := h.addr (by omega)
  have := h.piece (p := 0) (q := j) (by omega) c (by omega)
  simpa using this

theorem bequal_any (v u : Value) (a b : List Int) (w : World) (ha : RdI .u8 w v a) (hb : RdI .u8 w u b) (ha' : ∀ x ∈ a,0 ≤ x ∧ x ≤ 255) (hb' : ∀ x ∈ b,0 ≤ x ∧ x ≤ 255) :
  Calls Tryz.prog 60 #[v,u] w fun e w' => e = .returned (.bool (decide (a = b))) ∧ w' = w := by
 have s1 := str_of (P := Tryz.prog) ha Tryz.underlying22 Tryz.underlying5 Tryz.underlying9
 have s2 := str_of (P := Tryz.prog) hb Tryz.underlying22 Tryz.underlying5 Tryz.underlying9
 have hab := str_beq ha' hb'
 generalize decide (a = b) = R at *
 clear ha hb ha' hb'
 generalize strOfNums a = A at *
 generalize strOfNums b = B at *
 go_enter Tryz.func60,Tryz.ntmps60
 go_wp2_with fail
 go_ret
 exact ⟨rfl,rfl⟩

theorem hasPrefix_any (v u : Value) (a b : List Int) (w : World) (ha : RdI .u8 w v a) (hb : RdI .u8 w u b) (ha' : ∀ x ∈ a,0 ≤ x ∧ x ≤ 255) (hb' : ∀ x ∈ b,0 ≤ x ∧ x ≤ 255) :
  Calls Tryz.prog 68 #[v,u] w fun e w' => e = .returned (.bool (decide (a.take b.length = b))) ∧ w' = w := by
 obtain ⟨A0,n,c,rfl,hn,-⟩ := ha.form
 obtain ⟨B0,m,d,rfl,hm,-⟩ := hb.form
 by_cases hl : m ≤ n
 ·have hl' : (m : Int) ≤ (n : Int) := by omega
  obtain ⟨r,hr,rr⟩ := slice_head ha (j := m) (by omega)
  have HE := Lib.hid (bequal_any r _ _ b w rr hb (fun x hx => ha' x (List.mem_of_mem_take hx)) hb')
  rw [← hm]
  generalize decide (a.take m = b) = R at *
  clear ha hb rr hn hm
  go_enter Tryz.func68,Tryz.ntmps68
  go_wp2_with (refine HE.out.mono ?_;rintro e w1 ⟨rfl,rfl⟩)
  go_ret
  exact ⟨rfl,rfl⟩
 ·have hl' : decide ((m : Int) ≤ (n : Int)) = false := decide_eq_false (by omega)
  have hf : decide (a.take b.length = b) = false := decide_eq_false (fun h => by have := congrArg List.length h;simp at this;omega)
  rw [hf]
  clear ha hb hn hm hf
  go_enter Tryz.func68,Tryz.ntmps68
  go_wp2_with fail
  go_ret
  exact ⟨rfl,rfl⟩

def markB (l : List Int) : Bool := decide (l.take 4 = [80,77,84,68])

theorem RdI.lit {k : IntKind} (w : World) {l : List Int} {T : TypeId} {cs : Array Value} (fr : Nat × Nat) (hl : cs.toList = l.map (.int k)) {n cp : Nat} (hn : n = l.length) (hc : n ≤ cp) : RdI k (w.alloc (.cells cs T fr)) (.slice (some ⟨w.heap.size,0,none⟩) n cp) l := by
 refine ⟨_,_,_,rfl,hn,(fun h => by cases h),fun h0 => ⟨hc,w.heap.size,0,rfl,by simp,fun i x hx => ?_⟩⟩
 rw [Nat.zero_add,cell_of_row (w.alloc (.cells cs T fr)) w.heap.size i cs T fr (heap_alloc_new w _),← Array.getElem?_toList,hl,List.getElem?_map,hx]
 rfl

theorem marked_any (v : Value) (l : List Int) (w : World) (hv : RdI .u8 w v l) (hl : ∀ x ∈ l,0 ≤ x ∧ x ≤ 255) :
  Calls Tryz.prog 31 #[v] w fun e w' => e = .returned (.bool (markB l)) ∧ Keeps w w' [] := by
 have HP : Hid (∀ w1 u,Keeps w w1 [] → RdI .u8 w1 u [80,77,84,68] → Calls Tryz.prog 68 #[v,u] w1 fun e w' => e = .returned (.bool (markB l)) ∧ w' = w1) := fun w1 u k h => hasPrefix_any v u l [80,77,84,68] w1 (hv.keeps k) h hl (by decide)
 obtain ⟨A0,n,c,rfl,-,-⟩ := hv.form
 have kc := fun (w : World) (C : Array Value) (n c : Nat) => Lib.run_convert_bytes_const (P := Tryz.prog) w 22 5 C n c Tryz.underlying22 Tryz.underlying5
 clear hv hl
 generalize markB l = R at *
 go_enter Tryz.func31,Tryz.ntmps31
 go_wp2_with (go_at_call 68;(refine (HP.out _ _ ((Keeps.refl _ _).alloc _) (RdI.lit _ _ (l := [80,77,84,68]) rfl rfl (Nat.le_refl _))).mono ?_;rintro e w1 ⟨rfl,rfl⟩))
 go_ret
 exact ⟨rfl,(Keeps.refl _ _).alloc _⟩

theorem r_marked (v : Value) (l : List Int) (w : World) (hv : RdI .u8 w v l) (hl : ∀ x ∈ l,0 ≤ x ∧ x ≤ 255) :
  Calls Tryz.prog 14 #[v] w fun e w' => e = .returned (.bool (markB l)) ∧ w' = w := by
 obtain ⟨A0,n,c,rfl,hn,-⟩ := hv.form
 by_cases h4 : 4 ≤ n
 ·have h4' : (4 : Int) ≤ (n : Int) := by omega
  obtain ⟨r,hr0,rr⟩ := slice_head hv (j := 4) (by omega)
  have hr : ∀ w,(Instr.slice 22 (.slice A0 n c) none (some (.int .i64 4)) none).run Tryz.prog w = .ok r w := hr0
  clear hr0
  have s1 := str_of (P := Tryz.prog) rr Tryz.underlying22 Tryz.underlying5 Tryz.underlying9
  have hs := str_beq (a := l.take 4) (b := [80,77,84,68]) (fun x hx => hl x (List.mem_of_mem_take hx)) (by decide)
  rw [show (strOfNums [80,77,84,68]).toList = [80,77,84,68] from by rw [ByteArray.toList_eq];kernel_rfl] at hs
  have hR : Hid (markB l = decide (l.take 4 = [80,77,84,68])) := rfl
  generalize decide (l.take 4 = [80,77,84,68]) = R at *
  generalize markB l = R' at *
  clear hv rr hn hl
  generalize strOfNums (l.take 4) = A at *
  go_enter Tryz.func14,Tryz.ntmps14
  go_wp2_with fail
  go_ret
  exact ⟨by rw [hR.out];rfl,rfl⟩
 ·have h4' : decide ((4 : Int) ≤ (n : Int)) = false := decide_eq_false (by omega)
  have hf : markB l = false := decide_eq_false (fun h => by have := congrArg List.length h;simp at this;omega)
  rw [hf]
  clear hv hn hf hl
  go_enter Tryz.func14,Tryz.ntmps14
  go_wp2_with fail
  go_ret
  exact ⟨rfl,rfl⟩
end

section
open Go.RowKit

abbrev nilV : Value := .slice none 0 0
abbrev repV (a b c : Int) : Value := .agg #[.int .i64 a,.int .i64 b,.int .i64 c]
abbrev dictC (id : Int) (t : Value) (g1 : Int) (n1 : Value) (g2 : Int) (n2 : Value) (g3 : Int) (n3 : Value) (a b c : Int) (x : Value) : Array Value :=
 #[.int .u32 id,t,.int .i64 g1,n1,.int .i64 g2,n2,.int .i64 g3,n3,.int .i64 a,.int .i64 b,.int .i64 c,x]
abbrev rawC (x : Value) : Array Value := dictC 0 nilV 0 nilV 0 nilV 0 nilV 1 4 8 x
abbrev zeroC : Array Value := dictC 0 nilV 0 nilV 0 nilV 0 nilV 0 0 0 nilV

theorem dict_size : (Tryz.prog.info? 32).map (·.size) = some 12 := by kernel_rfl
theorem load_dict {w : World} {b : Nat} {cs : Array Value} (h : Blk w b cs 32) (hs : cs.size = 12) : (loadVar 32 ⟨b,0,none⟩).run Tryz.prog w = .ok (.agg cs) w :=
 load_blk h Tryz.underlying32 rfl (by rw [dict_size,hs])

theorem first_any (w : World) : Calls Tryz.prog 32 #[] w fun e w' => e = .returned (repV 1 4 8) ∧ Keeps w w' [] := by
 go_enter Tryz.func32,Tryz.ntmps32
 go_wp2_with fail
 refine bodyPost_ret (v := repV 1 4 8) (by simp only [results,Tryz.results32];go_simp) rfl ⟨rfl,(Keeps.refl _ _).alloc _⟩

set_option maxHeartbeats 4000000 in
theorem raw_yes (v : Value) (l : List Int) (w : World) (hv : RdI .u8 w v l) (hl : ∀ x ∈ l,0 ≤ x ∧ x ≤ 255) (hn : l.length ≤ 1000000) (hm : markB l = false) :
  Calls Tryz.prog 12 #[v] w fun e w' => ∃ x,e = .returned (.tuple #[.agg (rawC x),.int .i64 0]) ∧ RdI .u8 w' x l ∧ Fresh w.heap.size x ∧ Keeps w w' [] := by
 have HM := Lib.hid (fun w1 (k : Keeps w w1 []) => marked_any v l w1 (hv.keeps k) hl)
 rw [hm] at HM
 have HC := Lib.hid (fun w1 (k : Keeps w w1 []) => cloneb_any v l w1 (hv.keeps k) hn)
 have hbig : decide ((134217728 : Int) < (l.length : Int)) = false := decide_eq_false (by omega)
 obtain ⟨A0,n,c,rfl,rfl,-⟩ := hv.form
 clear hv hl hm hn
 generalize hN : l.length = N at *
 have HN := Lib.hid hN
 clear hN
 go_enter Tryz.func12,Tryz.ntmps12
 go_wp2_with (first
  | (go_at_call 31;(refine (HM.out _ ((Keeps.refl _ _).alloc _)).mono ?_;rintro e w1 ⟨rfl,k1⟩;have hb := (Blk.new w zeroC 32).keeps k1 (by simp);have kw1 := ((Keeps.refl w []).alloc _).then k1))
  | (go_at_call 32;(refine (first_any _).mono ?_;rintro e w2 ⟨rfl,k2⟩;have hb2 := hb.keeps k2 (by simp);have kw2 := kw1.then k2))
  | (go_at_call 33;(refine (HC.out _ kw2).mono ?_;rintro e w3 ⟨v3,rfl,own3,k3⟩;rw [OwnB,HN.out] at own3;obtain ⟨a3,c3,rfl⟩ := own_form own3;have hb3 := hb2.keeps k3 (by simp);have kw3 := kw2.then k3))
  | (refine wpList_store_blk rfl 32 _ _ rfl w.heap.size (rawC (.slice a3 N c3)) rfl rfl _ _ hb3 dict_size rfl (by simp [Value.oneCell']) ?_;intro W4 hb4 k4))
 have hs := kw2.size
 have hlb := hb2.lt
 have own4 : OwnB W4 w2.heap.size (.slice a3 l.length c3) l := own_moved (by rw [OwnB,HN.out];exact own3) (fun g hg => k4.block g (by rw [HN.out] at hg;exact (own3.lt g hg).2) (by rw [HN.out] at hg;have := (own3.lt g hg).1;simp;omega))
 have R4 := own_reads own4
 have F4 := own_freshB own4
 rw [HN.out] at R4 F4
 refine bodyPost_ret (v := .tuple #[.agg (rawC (.slice a3 N c3)),.int .i64 0]) (res_cell_tmp rfl rfl rfl (load_dict hb4 rfl)) rfl ⟨_,rfl,R4,F4.mono hs,kw3.trans k4 (fun j hj hlt => by simp at hj;omega)⟩

set_option maxHeartbeats 4000000 in
theorem r_plain (v : Value) (l : List Int) (w : World) (hv : RdI .u8 w v l) (hn : l.length ≤ 1000000) :
  Calls Tryz.prog 16 #[v] w fun e w' => ∃ x,e = .returned (.agg (rawC x)) ∧ RdI .u8 w' x l ∧ Fresh w.heap.size x ∧ Keeps w w' [] := by
 obtain ⟨i0,hi,hz0,hz1,hz2⟩ := info_parts Tryz.infoByte
 have HV := Lib.hid (hv.keeps ((Keeps.refl w []).alloc (.cells zeroC 32)))
 have hb := Blk.new w zeroC 32
 obtain ⟨A0,n,c,rfl,rfl,-⟩ := hv.form
 have HO := Lib.hid (World.ownsRow_nil (w.alloc (.cells zeroC 32)) (w.heap.size + 1) 5 1)
 clear hv
 generalize hN : l.length = N at *
 have HN := Lib.hid hN
 clear hN
 go_enter Tryz.func16,Tryz.ntmps16
 go_wp2_with (first
  | (at_builtin;(refine wpList_appendI rfl _ _ 22 rfl (w.heap.size + 1) 5 i0 (.int .u8 0) 1 Tryz.underlying22 hi hz0 hz1 hz2 rfl (.slice none 0 0) 0 [] rfl HO.out _ rfl .u8 l HV.out (by rw [HN.out];unfold maxLen;omega) (by rw [HN.out];omega) (by simp) ?_;intro v3 w3 own3 g3 _;rw [HN.out,Nat.zero_add,List.nil_append] at own3;obtain ⟨a3,c3,rfl⟩ := own_form own3;have k3 := Keeps.of_grown (S := []) g3 (fun k hk => by simp [Value.ownBlock] at hk);have hb3 := hb.keeps k3 (by simp)))
  | (refine wpList_store_blk rfl 32 _ _ rfl w.heap.size (rawC (.slice a3 N c3)) rfl rfl _ _ hb3 dict_size rfl (by simp [Value.oneCell']) ?_;intro W4 hb4 k4))
 simp only [Act.put]
 have hs1 := k3.size
 simp only [World.size_alloc] at hs1
 have own4 : OwnB W4 (w.heap.size + 1) (.slice a3 l.length c3) l := own_moved (by rw [OwnB,HN.out];exact own3) (fun g hg => k4.block g (by rw [HN.out] at hg;exact (own3.lt g hg).2) (by rw [HN.out] at hg;have := (own3.lt g hg).1;simp;omega))
 have R4 := own_reads own4
 have F4 := own_freshB own4
 rw [HN.out] at R4 F4
 refine bodyPost_ret (v := .agg (rawC (.slice a3 N c3))) (res_cell rfl rfl (load_dict hb4 rfl)) rfl ⟨_,rfl,R4,F4.mono (by omega),((((Keeps.refl w []).alloc _).then k3).trans k4 (fun j hj hlt => by simp at hj;omega))⟩
end

section
open Go.RowKit

theorem dmust_yes {b : Bool} (h : b = true) (n : Int) (w : World) : Calls Tryz.prog 62 #[.bool b,.int .i64 n] w fun e w' => e = .returned (.tuple #[]) ∧ w = w' := by
 subst h
 go_enter Tryz.func62,Tryz.ntmps62
 go_wp2
 go_end0
 exact ⟨rfl,rfl⟩
theorem dmust_no {b : Bool} (h : b = false) (n : Int) (w : World) : Calls Tryz.prog 62 #[.bool b,.int .i64 n] w fun e w' => e = .panicked [raisedBy n false] ∧ w = w' := by
 subst h
 go_enter Tryz.func62,Tryz.ntmps62
 go_wp2
 exact ⟨rfl,rfl,rfl⟩
theorem got32_yes (x : Int) (w : World) : Calls Tryz.prog 83 #[.int .u32 x,.int .i64 0] w fun e w' => e = .returned (.int .u32 x) ∧ w' = w := by
 go_enter Tryz.func83,Tryz.ntmps83
 go_wp2_with (go_at_call 62;refine (dmust_yes (by simp) 0 _).mono ?_;rintro e w1 ⟨rfl,rfl⟩)
 go_ret
 exact ⟨rfl,rfl⟩
theorem got32_no (x n : Int) (hn : n ≠ 0) (w : World) : Calls Tryz.prog 83 #[.int .u32 x,.int .i64 n] w fun e w' => e = .panicked [raisedBy n false] ∧ w' = w := by
 have hn' : (n == 0) = false := by simpa using hn
 go_enter Tryz.func83,Tryz.ntmps83
 go_wp2_with (go_at_call 62;refine (dmust_no (by simp [hn']) n _).mono ?_;rintro e w1 ⟨rfl,rfl⟩)
 exact ⟨rfl,rfl,rfl⟩

theorem full2_no (p k bc bd : Nat) (v : Value) (B : List Int) (w : World) (hc : Cur w p v B k) (hb : Blk w bc #[.pointer (some ⟨p,0,none⟩)] 71) (hE : bytesE B k 4 ≠ 0) :
  Calls Tryz.prog 82 #[.pointer (some ⟨bc,0,none⟩),.pointer (some ⟨bd,0,none⟩)] w fun e w' => e = .panicked [raisedBy (bytesE B k 4) false] ∧ Keeps w w' [p] := by
 have H := Lib.hid (word_any p k v B w hc)
 obtain ⟨d0,-⟩ := hb.one
 clear hc hb
 generalize wordL (bytesX B k 4) = X at *
 generalize bytesE B k 4 = E at *
 generalize bytesK B k 4 = K' at *
 go_enter Tryz.func82,Tryz.ntmps82
 go_wp2_with (first
  | (go_at_call 84;(refine H.out.mono ?_;rintro e w1 ⟨rfl,-,k1⟩))
  | (go_at_call 83;(refine (got32_no _ _ hE _).mono ?_;rintro e w2 ⟨rfl,rfl⟩)))
 exact ⟨rfl,rfl,k1⟩

set_option maxHeartbeats 1000000 in
theorem full2_yes (p k bc bd : Nat) (v : Value) (B : List Int) (w : World) (id : Int) (t : Value) (g1 : Int) (n1 : Value) (g2 : Int) (n2 : Value) (g3 : Int) (n3 : Value) (a b c : Int) (x : Value) (hc : Cur w p v B k) (hb : Blk w bc #[.pointer (some ⟨p,0,none⟩)] 71)
  (hd : Blk w bd (dictC id t g1 n1 g2 n2 g3 n3 a b c x) 32) (hpd : p ≠ bd) (hE : bytesE B k 4 = 0) :
  Calls Tryz.prog 82 #[.pointer (some ⟨bc,0,none⟩),.pointer (some ⟨bd,0,none⟩)] w fun e w' => e = .returned (.tuple #[]) ∧ Blk w' bd (dictC (wordL (bytesX B k 4)) t g1 n1 g2 n2 g3 n3 a b c x) 32 ∧ Keeps w w' [p,bd] := by
 have H := Lib.hid (word_any p k v B w hc)
 rw [hE] at H
 obtain ⟨d0,-⟩ := hb.one
 clear hc hb hE
 generalize wordL (bytesX B k 4) = X at *
 generalize bytesK B k 4 = K' at *
 go_enter Tryz.func82,Tryz.ntmps82
 go_wp2_with (first
  | (go_at_call 84;(refine H.out.mono ?_;rintro e w1 ⟨rfl,-,k1⟩;have hd1 := hd.keeps k1 (by simpa using hpd.symm);have c0 : w1.cell? ⟨bd,0,none⟩ = some (.int .u32 id) := hd1.cell 0;have f0 := hd1.frozen 0))
  | (go_at_call 83;(refine (got32_yes _ _).mono ?_;rintro e w2 ⟨rfl,rfl⟩)))
 go_end0
 refine ⟨rfl,?_,?_⟩
 ·have := hd1.set 0 (.int .u32 X)
  simpa using this
 ·exact (k1.mono (by simp)).trans ((Keeps.refl _ [bd]).setCell (.inr (by simp)) _) (fun j hj _ => by simp at hj;simp [hj])

theorem full3_no (bd : Nat) (w : World) (hd : w.cell? ⟨bd,0,none⟩ = some (.int .u32 0)) :
  Calls Tryz.prog 85 #[.pointer (some ⟨bd,0,none⟩)] w fun e w' => e = .panicked [raisedBy 9 false] ∧ w' = w := by
 go_enter Tryz.func85,Tryz.ntmps85
 go_wp2_with (go_at_call 62;refine (dmust_no (by simp) 9 _).mono ?_;rintro e w1 ⟨rfl,rfl⟩)
 exact ⟨rfl,rfl,rfl⟩

theorem full1_any (bc : Nat) (to : Addr) (s g : Int) (w : World) : Calls Tryz.prog 78 #[.pointer (some to),.int .i64 s,.int .i64 g,.pointer (some ⟨bc,0,none⟩)] w fun e w' => (∃ cap,e = .returned (.func (.func 79) #[] cap)) ∧ Keeps w w' [] := by
 go_enter Tryz.func78,Tryz.ntmps78
 go_wp2_with fail
 go_ret
 exact ⟨⟨_,rfl⟩,((((Keeps.refl _ _).alloc _).alloc _).alloc _)⟩
end

section
open Go.RowKit

set_option maxHeartbeats 8000000 in
theorem full_short (p k : Nat) (v : Value) (B : List Int) (w : World) (hc : Cur w p v B k) (hE : bytesE B k 4 ≠ 0) :
  Calls Tryz.prog 48 #[.pointer (some ⟨p,0,none⟩)] w fun e w' => e = .panicked [raisedBy (bytesE B k 4) false] ∧ Keeps w w' [p] := by
 have HC := Lib.hid (fun w1 (k1 : Keeps w w1 []) => hc.keeps k1)
 have hlp := hc.old.1
 have z0 := ((Blk.new w #[.pointer (some ⟨p,0,none⟩)] 71).alloc (.cells zeroC 32)).alloc (.cells #[.pointer (some ⟨w.heap.size + 1,1,none⟩)] 105)
 have z1 := (Blk.new (w.alloc (.cells #[.pointer (some ⟨p,0,none⟩)] 71)) zeroC 32).alloc (.cells #[.pointer (some ⟨w.heap.size + 1,1,none⟩)] 105)
 have z2 := Blk.new ((w.alloc (.cells #[.pointer (some ⟨p,0,none⟩)] 71)).alloc (.cells zeroC 32)) #[.pointer (some ⟨w.heap.size + 1,1,none⟩)] 105
 have zk : Keeps w (((w.alloc (.cells #[.pointer (some ⟨p,0,none⟩)] 71)).alloc (.cells zeroC 32)).alloc (.cells #[.pointer (some ⟨w.heap.size + 1,1,none⟩)] 105)) [] := (((Keeps.refl w []).alloc _).alloc _).alloc _
 simp only [World.size_alloc] at z1 z2
 clear hc
 go_enter Tryz.func48,Tryz.ntmps48
 go_wp2_with fail
 generalize (((w.alloc (.cells #[.pointer (some ⟨p,0,none⟩)] 71)).alloc (.cells zeroC 32)).alloc (.cells #[.pointer (some ⟨w.heap.size + 1,1,none⟩)] 105)) = W at *
 refine wp_region_held_drew (S := (fun w' => Blk w' w.heap.size #[.pointer (some ⟨p,0,none⟩)] 71 ∧ Blk w' (w.heap.size + 1) zeroC 32 ∧ Blk w' (w.heap.size + 1 + 1) #[.pointer (some ⟨w.heap.size + 1,1,none⟩)] 105 ∧ Keeps w w' [])) (by kernel_rfl) ⟨z0.drew,z1.drew,z2.drew,zk.drew⟩ (fun hHeld => ?_)
 refine takeM 0 rfl (by intro w9 hSw;obtain ⟨hS1,hS2,hS3,-⟩ := hSw;obtain ⟨q0,-⟩ := hS1.one;obtain ⟨q3,-⟩ := hS3.one;clear hS1 hS2 hS3;go_simp;(try with_reducible rfl)) ?_
 try simp only [Act.put,stA,stZ,stS]
 refine takeM 1 rfl (by intro w9 hSw;obtain ⟨hS1,hS2,hS3,-⟩ := hSw;obtain ⟨q0,-⟩ := hS1.one;obtain ⟨q3,-⟩ := hS3.one;clear hS1 hS2 hS3;go_simp;(try with_reducible rfl)) ?_
 try simp only [Act.put,stA,stZ,stS]
 refine takeM 2 rfl (by intro w9 hSw;obtain ⟨hS1,hS2,hS3,-⟩ := hSw;obtain ⟨q0,-⟩ := hS1.one;obtain ⟨q3,-⟩ := hS3.one;clear hS1 hS2 hS3;go_simp;(try with_reducible rfl)) ?_
 try simp only [Act.put,stA,stZ,stS]
 refine takeM 3 rfl (by intro w9 hSw;obtain ⟨hS1,hS2,hS3,-⟩ := hSw;obtain ⟨q0,-⟩ := hS1.one;obtain ⟨q3,-⟩ := hS3.one;clear hS1 hS2 hS3;go_simp;(try with_reducible rfl)) ?_
 try simp only [Act.put,stA,stZ,stS]
 refine takeM 4 rfl (by intro w9 hSw;obtain ⟨hS1,hS2,hS3,-⟩ := hSw;obtain ⟨q0,-⟩ := hS1.one;obtain ⟨q3,-⟩ := hS3.one;clear hS1 hS2 hS3;go_simp;(try with_reducible rfl)) ?_
 try simp only [Act.put,stA,stZ,stS]
 refine takeM 5 rfl (by intro w9 hSw;obtain ⟨hS1,hS2,hS3,-⟩ := hSw;obtain ⟨q0,-⟩ := hS1.one;obtain ⟨q3,-⟩ := hS3.one;clear hS1 hS2 hS3;go_simp;(try with_reducible rfl)) ?_
 try simp only [Act.put,stA,stZ,stS]
 refine takeM 6 rfl (by intro w9 hSw;obtain ⟨hS1,hS2,hS3,-⟩ := hSw;obtain ⟨q0,-⟩ := hS1.one;obtain ⟨q3,-⟩ := hS3.one;clear hS1 hS2 hS3;go_simp;(try with_reducible rfl)) ?_
 try simp only [Act.put,stA,stZ,stS]
 refine takeM 8 rfl (by intro w9 hSw;obtain ⟨hS1,hS2,hS3,-⟩ := hSw;obtain ⟨q0,-⟩ := hS1.one;obtain ⟨q3,-⟩ := hS3.one;clear hS1 hS2 hS3;go_simp;(try with_reducible rfl)) ?_
 try simp only [Act.put,stA,stZ,stS]
 refine takeM 9 rfl (by intro w9 hSw;obtain ⟨hS1,hS2,hS3,-⟩ := hSw;obtain ⟨q0,-⟩ := hS1.one;obtain ⟨q3,-⟩ := hS3.one;clear hS1 hS2 hS3;go_simp;(try with_reducible rfl)) ?_
 try simp only [Act.put,stA,stZ,stS]
 refine takeM 10 rfl (by intro w9 hSw;obtain ⟨hS1,hS2,hS3,-⟩ := hSw;obtain ⟨q0,-⟩ := hS1.one;obtain ⟨q3,-⟩ := hS3.one;clear hS1 hS2 hS3;go_simp;(try with_reducible rfl)) ?_
 try simp only [Act.put,stA,stZ,stS]
 refine takeM 11 rfl (by intro w9 hSw;obtain ⟨hS1,hS2,hS3,-⟩ := hSw;obtain ⟨q0,-⟩ := hS1.one;obtain ⟨q3,-⟩ := hS3.one;clear hS1 hS2 hS3;go_simp;(try with_reducible rfl)) ?_
 try simp only [Act.put,stA,stZ,stS]
 refine takeM 13 rfl (by intro w9 hSw;obtain ⟨hS1,hS2,hS3,-⟩ := hSw;obtain ⟨q0,-⟩ := hS1.one;obtain ⟨q3,-⟩ := hS3.one;clear hS1 hS2 hS3;go_simp;(try with_reducible rfl)) ?_
 try simp only [Act.put,stA,stZ,stS]
 refine takeM 14 rfl (by intro w9 hSw;obtain ⟨hS1,hS2,hS3,-⟩ := hSw;obtain ⟨q0,-⟩ := hS1.one;obtain ⟨q3,-⟩ := hS3.one;clear hS1 hS2 hS3;go_simp;(try with_reducible rfl)) ?_
 try simp only [Act.put,stA,stZ,stS]
 refine takeM 15 rfl (by intro w9 hSw;obtain ⟨hS1,hS2,hS3,-⟩ := hSw;obtain ⟨q0,-⟩ := hS1.one;obtain ⟨q3,-⟩ := hS3.one;clear hS1 hS2 hS3;go_simp;(try with_reducible rfl)) ?_
 try simp only [Act.put,stA,stZ,stS]
 refine takeM 16 rfl (by intro w9 hSw;obtain ⟨hS1,hS2,hS3,-⟩ := hSw;obtain ⟨q0,-⟩ := hS1.one;obtain ⟨q3,-⟩ := hS3.one;clear hS1 hS2 hS3;go_simp;(try with_reducible rfl)) ?_
 try simp only [Act.put,stA,stZ,stS]
 refine takeM 18 rfl (by intro w9 hSw;obtain ⟨hS1,hS2,hS3,-⟩ := hSw;obtain ⟨q0,-⟩ := hS1.one;obtain ⟨q3,-⟩ := hS3.one;clear hS1 hS2 hS3;go_simp;(try with_reducible rfl)) ?_
 try simp only [Act.put,stA,stZ,stS]
 refine takeM 19 rfl (by intro w9 hSw;obtain ⟨hS1,hS2,hS3,-⟩ := hSw;obtain ⟨q0,-⟩ := hS1.one;obtain ⟨q3,-⟩ := hS3.one;clear hS1 hS2 hS3;go_simp;(try with_reducible rfl)) ?_
 try simp only [Act.put,stA,stZ,stS]
 refine takeM 20 rfl (by intro w9 hSw;obtain ⟨hS1,hS2,hS3,-⟩ := hSw;obtain ⟨q0,-⟩ := hS1.one;obtain ⟨q3,-⟩ := hS3.one;clear hS1 hS2 hS3;go_simp;(try with_reducible rfl)) ?_
 try simp only [Act.put,stA,stZ,stS]
 refine takeM 23 rfl (by intro w9 hSw;obtain ⟨hS1,hS2,hS3,-⟩ := hSw;obtain ⟨q0,-⟩ := hS1.one;obtain ⟨q3,-⟩ := hS3.one;clear hS1 hS2 hS3;go_simp;(try with_reducible rfl)) ?_
 try simp only [Act.put,stA,stZ,stS]
 refine callL (i := 7) rfl (by kernel_rfl) (fun Kont hK => ?_)
 go_simp
 go_at_call 78;refine (full1_any _ _ _ _ _).mono ?_;rintro e w2 ⟨⟨cap7,rfl⟩,kk⟩
 go_wp2_with fail
 refine hK.out _ _ ?_ (fun hHeld => ?_)
 ·(exact ⟨hHeld.1.keeps kk (by simp),hHeld.2.1.keeps kk (by simp),hHeld.2.2.1.keeps kk (by simp),hHeld.2.2.2.then kk⟩)
 clear hK Kont
 refine callL (i := 12) rfl (by kernel_rfl) (fun Kont hK => ?_)
 go_simp
 go_at_call 78;refine (full1_any _ _ _ _ _).mono ?_;rintro e w2 ⟨⟨cap12,rfl⟩,kk⟩
 go_wp2_with fail
 refine hK.out _ _ ?_ (fun hHeld => ?_)
 ·(exact ⟨hHeld.1.keeps kk (by simp),hHeld.2.1.keeps kk (by simp),hHeld.2.2.1.keeps kk (by simp),hHeld.2.2.2.then kk⟩)
 clear hK Kont
 refine callL (i := 17) rfl (by kernel_rfl) (fun Kont hK => ?_)
 go_simp
 go_at_call 78;refine (full1_any _ _ _ _ _).mono ?_;rintro e w2 ⟨⟨cap17,rfl⟩,kk⟩
 go_wp2_with fail
 refine hK.out _ _ ?_ (fun hHeld => ?_)
 ·(exact ⟨hHeld.1.keeps kk (by simp),hHeld.2.1.keeps kk (by simp),hHeld.2.2.1.keeps kk (by simp),hHeld.2.2.2.then kk⟩)
 clear hK Kont
 refine callL (i := 21) rfl (by kernel_rfl) (fun Kont hK => ?_)
 go_simp
 refine hK.out _ _ ?_ (fun hHeld => ?_)
 ·(exact ⟨hHeld.1.alloc _,hHeld.2.1.alloc _,hHeld.2.2.1.alloc _,hHeld.2.2.2.alloc _⟩)
 clear hK Kont
 refine takeM 22 rfl (by intro w9 hSw;obtain ⟨hS1,hS2,hS3,-⟩ := hSw;obtain ⟨q0,-⟩ := hS1.one;obtain ⟨q3,-⟩ := hS3.one;clear hS1 hS2 hS3;go_simp;(try with_reducible rfl)) ?_
 try simp only [Act.put,stA,stZ,stS]
 refine wpAnyH_done (by kernel_rfl) ?_ _
 go_wp2_with fail
 refine wp_loop_rounds 2 ?_
 rw [rounds_succ]
 go_wp2_with fail
 refine (full2_no p k _ _ v B _ (HC.out _ hHeld.2.2.2) hHeld.1 hE).mono ?_
 rintro e w3 ⟨rfl,k3⟩
 exact ⟨rfl,rfl,(hHeld.2.2.2.mono (by simp)).trans k3 (fun j hj _ => hj)⟩

set_option maxHeartbeats 8000000 in
theorem full_zero (p k : Nat) (v : Value) (B : List Int) (w : World) (hc : Cur w p v B k) (hE : bytesE B k 4 = 0) (hZ : wordL (bytesX B k 4) = 0) :
  Calls Tryz.prog 48 #[.pointer (some ⟨p,0,none⟩)] w fun e w' => e = .panicked [raisedBy 9 false] ∧ Keeps w w' [p] := by
 have HC := Lib.hid (fun w1 (k1 : Keeps w w1 []) => hc.keeps k1)
 have hlp := hc.old.1
 have z0 := ((Blk.new w #[.pointer (some ⟨p,0,none⟩)] 71).alloc (.cells zeroC 32)).alloc (.cells #[.pointer (some ⟨w.heap.size + 1,1,none⟩)] 105)
 have z1 := (Blk.new (w.alloc (.cells #[.pointer (some ⟨p,0,none⟩)] 71)) zeroC 32).alloc (.cells #[.pointer (some ⟨w.heap.size + 1,1,none⟩)] 105)
 have z2 := Blk.new ((w.alloc (.cells #[.pointer (some ⟨p,0,none⟩)] 71)).alloc (.cells zeroC 32)) #[.pointer (some ⟨w.heap.size + 1,1,none⟩)] 105
 have zk : Keeps w (((w.alloc (.cells #[.pointer (some ⟨p,0,none⟩)] 71)).alloc (.cells zeroC 32)).alloc (.cells #[.pointer (some ⟨w.heap.size + 1,1,none⟩)] 105)) [] := (((Keeps.refl w []).alloc _).alloc _).alloc _
 simp only [World.size_alloc] at z1 z2
 clear hc
 go_enter Tryz.func48,Tryz.ntmps48
 go_wp2_with fail
 generalize (((w.alloc (.cells #[.pointer (some ⟨p,0,none⟩)] 71)).alloc (.cells zeroC 32)).alloc (.cells #[.pointer (some ⟨w.heap.size + 1,1,none⟩)] 105)) = W at *
 refine wp_region_held_drew (S := (fun w' => Blk w' w.heap.size #[.pointer (some ⟨p,0,none⟩)] 71 ∧ Blk w' (w.heap.size + 1) zeroC 32 ∧ Blk w' (w.heap.size + 1 + 1) #[.pointer (some ⟨w.heap.size + 1,1,none⟩)] 105 ∧ Keeps w w' [])) (by kernel_rfl) ⟨z0.drew,z1.drew,z2.drew,zk.drew⟩ (fun hHeld => ?_)
 refine takeM 0 rfl (by intro w9 hSw;obtain ⟨hS1,hS2,hS3,-⟩ := hSw;obtain ⟨q0,-⟩ := hS1.one;obtain ⟨q3,-⟩ := hS3.one;clear hS1 hS2 hS3;go_simp;(try with_reducible rfl)) ?_
 try simp only [Act.put,stA,stZ,stS]
 refine takeM 1 rfl (by intro w9 hSw;obtain ⟨hS1,hS2,hS3,-⟩ := hSw;obtain ⟨q0,-⟩ := hS1.one;obtain ⟨q3,-⟩ := hS3.one;clear hS1 hS2 hS3;go_simp;(try with_reducible rfl)) ?_
 try simp only [Act.put,stA,stZ,stS]
 refine takeM 2 rfl (by intro w9 hSw;obtain ⟨hS1,hS2,hS3,-⟩ := hSw;obtain ⟨q0,-⟩ := hS1.one;obtain ⟨q3,-⟩ := hS3.one;clear hS1 hS2 hS3;go_simp;(try with_reducible rfl)) ?_
 try simp only [Act.put,stA,stZ,stS]
 refine takeM 3 rfl (by intro w9 hSw;obtain ⟨hS1,hS2,hS3,-⟩ := hSw;obtain ⟨q0,-⟩ := hS1.one;obtain ⟨q3,-⟩ := hS3.one;clear hS1 hS2 hS3;go_simp;(try with_reducible rfl)) ?_
 try simp only [Act.put,stA,stZ,stS]
 refine takeM 4 rfl (by intro w9 hSw;obtain ⟨hS1,hS2,hS3,-⟩ := hSw;obtain ⟨q0,-⟩ := hS1.one;obtain ⟨q3,-⟩ := hS3.one;clear hS1 hS2 hS3;go_simp;(try with_reducible rfl)) ?_
 try simp only [Act.put,stA,stZ,stS]
 refine takeM 5 rfl (by intro w9 hSw;obtain ⟨hS1,hS2,hS3,-⟩ := hSw;obtain ⟨q0,-⟩ := hS1.one;obtain ⟨q3,-⟩ := hS3.one;clear hS1 hS2 hS3;go_simp;(try with_reducible rfl)) ?_
 try simp only [Act.put,stA,stZ,stS]
 refine takeM 6 rfl (by intro w9 hSw;obtain ⟨hS1,hS2,hS3,-⟩ := hSw;obtain ⟨q0,-⟩ := hS1.one;obtain ⟨q3,-⟩ := hS3.one;clear hS1 hS2 hS3;go_simp;(try with_reducible rfl)) ?_
 try simp only [Act.put,stA,stZ,stS]
 refine takeM 8 rfl (by intro w9 hSw;obtain ⟨hS1,hS2,hS3,-⟩ := hSw;obtain ⟨q0,-⟩ := hS1.one;obtain ⟨q3,-⟩ := hS3.one;clear hS1 hS2 hS3;go_simp;(try with_reducible rfl)) ?_
 try simp only [Act.put,stA,stZ,stS]
 refine takeM 9 rfl (by intro w9 hSw;obtain ⟨hS1,hS2,hS3,-⟩ := hSw;obtain ⟨q0,-⟩ := hS1.one;obtain ⟨q3,-⟩ := hS3.one;clear hS1 hS2 hS3;go_simp;(try with_reducible rfl)) ?_
 try simp only [Act.put,stA,stZ,stS]
 refine takeM 10 rfl (by intro w9 hSw;obtain ⟨hS1,hS2,hS3,-⟩ := hSw;obtain ⟨q0,-⟩ := hS1.one;obtain ⟨q3,-⟩ := hS3.one;clear hS1 hS2 hS3;go_simp;(try with_reducible rfl)) ?_
 try simp only [Act.put,stA,stZ,stS]
 refine takeM 11 rfl (by intro w9 hSw;obtain ⟨hS1,hS2,hS3,-⟩ := hSw;obtain ⟨q0,-⟩ := hS1.one;obtain ⟨q3,-⟩ := hS3.one;clear hS1 hS2 hS3;go_simp;(try with_reducible rfl)) ?_
 try simp only [Act.put,stA,stZ,stS]
 refine takeM 13 rfl (by intro w9 hSw;obtain ⟨hS1,hS2,hS3,-⟩ := hSw;obtain ⟨q0,-⟩ := hS1.one;obtain ⟨q3,-⟩ := hS3.one;clear hS1 hS2 hS3;go_simp;(try with_reducible rfl)) ?_
 try simp only [Act.put,stA,stZ,stS]
 refine takeM 14 rfl (by intro w9 hSw;obtain ⟨hS1,hS2,hS3,-⟩ := hSw;obtain ⟨q0,-⟩ := hS1.one;obtain ⟨q3,-⟩ := hS3.one;clear hS1 hS2 hS3;go_simp;(try with_reducible rfl)) ?_
 try simp only [Act.put,stA,stZ,stS]
 refine takeM 15 rfl (by intro w9 hSw;obtain ⟨hS1,hS2,hS3,-⟩ := hSw;obtain ⟨q0,-⟩ := hS1.one;obtain ⟨q3,-⟩ := hS3.one;clear hS1 hS2 hS3;go_simp;(try with_reducible rfl)) ?_
 try simp only [Act.put,stA,stZ,stS]
 refine takeM 16 rfl (by intro w9 hSw;obtain ⟨hS1,hS2,hS3,-⟩ := hSw;obtain ⟨q0,-⟩ := hS1.one;obtain ⟨q3,-⟩ := hS3.one;clear hS1 hS2 hS3;go_simp;(try with_reducible rfl)) ?_
 try simp only [Act.put,stA,stZ,stS]
 refine takeM 18 rfl (by intro w9 hSw;obtain ⟨hS1,hS2,hS3,-⟩ := hSw;obtain ⟨q0,-⟩ := hS1.one;obtain ⟨q3,-⟩ := hS3.one;clear hS1 hS2 hS3;go_simp;(try with_reducible rfl)) ?_
 try simp only [Act.put,stA,stZ,stS]
 refine takeM 19 rfl (by intro w9 hSw;obtain ⟨hS1,hS2,hS3,-⟩ := hSw;obtain ⟨q0,-⟩ := hS1.one;obtain ⟨q3,-⟩ := hS3.one;clear hS1 hS2 hS3;go_simp;(try with_reducible rfl)) ?_
 try simp only [Act.put,stA,stZ,stS]
 refine takeM 20 rfl (by intro w9 hSw;obtain ⟨hS1,hS2,hS3,-⟩ := hSw;obtain ⟨q0,-⟩ := hS1.one;obtain ⟨q3,-⟩ := hS3.one;clear hS1 hS2 hS3;go_simp;(try with_reducible rfl)) ?_
 try simp only [Act.put,stA,stZ,stS]
 refine takeM 23 rfl (by intro w9 hSw;obtain ⟨hS1,hS2,hS3,-⟩ := hSw;obtain ⟨q0,-⟩ := hS1.one;obtain ⟨q3,-⟩ := hS3.one;clear hS1 hS2 hS3;go_simp;(try with_reducible rfl)) ?_
 try simp only [Act.put,stA,stZ,stS]
 refine callL (i := 7) rfl (by kernel_rfl) (fun Kont hK => ?_)
 go_simp
 go_at_call 78;refine (full1_any _ _ _ _ _).mono ?_;rintro e w2 ⟨⟨cap7,rfl⟩,kk⟩
 go_wp2_with fail
 refine hK.out _ _ ?_ (fun hHeld => ?_)
 ·(exact ⟨hHeld.1.keeps kk (by simp),hHeld.2.1.keeps kk (by simp),hHeld.2.2.1.keeps kk (by simp),hHeld.2.2.2.then kk⟩)
 clear hK Kont
 refine callL (i := 12) rfl (by kernel_rfl) (fun Kont hK => ?_)
 go_simp
 go_at_call 78;refine (full1_any _ _ _ _ _).mono ?_;rintro e w2 ⟨⟨cap12,rfl⟩,kk⟩
 go_wp2_with fail
 refine hK.out _ _ ?_ (fun hHeld => ?_)
 ·(exact ⟨hHeld.1.keeps kk (by simp),hHeld.2.1.keeps kk (by simp),hHeld.2.2.1.keeps kk (by simp),hHeld.2.2.2.then kk⟩)
 clear hK Kont
 refine callL (i := 17) rfl (by kernel_rfl) (fun Kont hK => ?_)
 go_simp
 go_at_call 78;refine (full1_any _ _ _ _ _).mono ?_;rintro e w2 ⟨⟨cap17,rfl⟩,kk⟩
 go_wp2_with fail
 refine hK.out _ _ ?_ (fun hHeld => ?_)
 ·(exact ⟨hHeld.1.keeps kk (by simp),hHeld.2.1.keeps kk (by simp),hHeld.2.2.1.keeps kk (by simp),hHeld.2.2.2.then kk⟩)
 clear hK Kont
 refine callL (i := 21) rfl (by kernel_rfl) (fun Kont hK => ?_)
 go_simp
 refine hK.out _ _ ?_ (fun hHeld => ?_)
 ·(exact ⟨hHeld.1.alloc _,hHeld.2.1.alloc _,hHeld.2.2.1.alloc _,hHeld.2.2.2.alloc _⟩)
 clear hK Kont
 refine takeM 22 rfl (by intro w9 hSw;obtain ⟨hS1,hS2,hS3,-⟩ := hSw;obtain ⟨q0,-⟩ := hS1.one;obtain ⟨q3,-⟩ := hS3.one;clear hS1 hS2 hS3;go_simp;(try with_reducible rfl)) ?_
 try simp only [Act.put,stA,stZ,stS]
 refine wpAnyH_done (by kernel_rfl) ?_ _
 go_wp2_with fail
 refine wp_loop_rounds 2 ?_
 rw [rounds_succ]
 go_wp2_with fail
 refine (full2_yes p k _ _ v B _ 0 nilV 0 nilV 0 nilV 0 nilV 0 0 0 nilV (HC.out _ hHeld.2.2.2) hHeld.1 hHeld.2.1 (by omega) hE).mono ?_
 rintro e w3 ⟨rfl,hb3,k3⟩
 rw [hZ] at hb3
 have c0 : w3.cell? ⟨w.heap.size + 1,0,none⟩ = some (.int .u32 0) := hb3.cell 0
 have l1 := hHeld.2.2.1.lt
 simp only [World.size_alloc] at l1
 have hf : w3.cell? ⟨w2.heap.size,1,none⟩ = some (.func (.func 85) #[] #[.pointer (some ⟨w.heap.size + 1,0,none⟩)]) :=
  (k3.cell (by simp) (by simp;omega)).trans ((Blk.new w2 _ _).cell 1)
 have kf : Keeps w w3 [p] := (hHeld.2.2.2.mono (S' := [p]) (by simp)).trans k3 (fun j hj hlt => by simp at hj;rcases hj with hj | hj <;> simp <;> omega)
 go_wp2_with fail
 rw [rounds_succ]
 go_wp2_with fail
 refine (full3_no _ _ c0).mono ?_
 rintro e w4 ⟨rfl,rfl⟩
 exact ⟨rfl,rfl,kf⟩
end

section
open Go.RowKit

theorem zset {w : World} {b : Nat} {cs : Array Value} {T : TypeId} (h : Blk w b cs T) (i : Nat) (v : Value) (hv : cs.setIfInBounds i v = cs) : Blk (w.setCell ⟨b,i,none⟩ v) b cs T := by
 have := h.set i v
 rwa [hv] at this
theorem zone {w : World} {b : Nat} {x : Value} {T : TypeId} (h : Blk w b #[x] T) (v : Value) : Blk (w.setCell ⟨b,0,none⟩ v) b #[v] T := by
 have := h.set 0 v
 simpa using this

set_option maxHeartbeats 4000000 in
theorem dget_back (pd pe : Nat) (n : Int) (z : Value) (older : List PanicEntry) (w : World) (hd : Blk w pd zeroC 32) (he : Blk w pe #[z] 33) (hne : pd ≠ pe) :
  CallsD Tryz.prog 47 #[.pointer (some ⟨pd,0,none⟩),.pointer (some ⟨pe,0,none⟩)] (.panicking (raisedBy n false :: older)) w fun e u' w' =>
   e = .returned (.tuple #[]) ∧ u' = .panicking (raisedBy n true :: older) ∧ Blk w' pd zeroC 32 ∧ Blk w' pe #[.int .i64 n] 33 ∧ Keeps w w' [pd,pe] := by
 obtain ⟨c0,f0⟩ := he.one
 have hta : ∀ w : World,(Instr.typeAssert (.iface 33 (.int .i64 n)) 20 33 false).run Tryz.prog w = .ok (.int .i64 n) w := fun _ => by kernel_rfl
 have hne' := hne.symm
 refine callsD_of_wpS Tryz.func47 rfl fun c₀ cs hu => ?_
 simp only [Tryz.ntmps47,List.size_toArray,List.length_cons,List.length_nil,Nat.reduceAdd,Nat.reduceSub,Array.replicate_succ,Array.replicate_zero,List.push_toArray,List.append_toArray,List.nil_append,List.cons_append]
 apply wpS_seq
 apply wpS_region
 simp [wpOpsS,go_sem,recoverD,hu,Exit.thenS,raisedBy]
 refine wpS_of_wp ?_
 have HU := Lib.hid hu
 clear hu
 have z0 : w.cell? ⟨pd,0,none⟩ = some (.int .u32 0) := hd.cell 0
 have z1 : w.cell? ⟨pd,1,none⟩ = some nilV := hd.cell 1
 have z2 : w.cell? ⟨pd,2,none⟩ = some (.int .i64 0) := hd.cell 2
 have z3 : w.cell? ⟨pd,3,none⟩ = some nilV := hd.cell 3
 have z4 : w.cell? ⟨pd,4,none⟩ = some (.int .i64 0) := hd.cell 4
 have z5 : w.cell? ⟨pd,5,none⟩ = some nilV := hd.cell 5
 have z6 : w.cell? ⟨pd,6,none⟩ = some (.int .i64 0) := hd.cell 6
 have z7 : w.cell? ⟨pd,7,none⟩ = some nilV := hd.cell 7
 have z8 : w.cell? ⟨pd,8,none⟩ = some (.int .i64 0) := hd.cell 8
 have z9 : w.cell? ⟨pd,9,none⟩ = some (.int .i64 0) := hd.cell 9
 have za : w.cell? ⟨pd,10,none⟩ = some (.int .i64 0) := hd.cell 10
 have zb : w.cell? ⟨pd,11,none⟩ = some nilV := hd.cell 11
 have y : ∀ i,w.frozen? ⟨pd,i,none⟩ = false := fun i => hd.frozen i
 have HD := Lib.hid hd
 have HE := Lib.hid he
 clear hd he
 go_wp2_with fail
 go_region
 have k0 : Keeps w w [pd,pe] := Keeps.refl w _
 have b := HD.out
 have d := HE.out
 replace k0 := k0.setCell (a := ⟨pd,0,none⟩) (.inr (by simp)) (.int .u32 0)
 replace d := d.setOther (a := ⟨pd,0,none⟩) (by dsimp only;exact hne) (.int .u32 0)
 replace b := zset b 0 (.int .u32 0) (by rfl)
 replace k0 := k0.setCell (a := ⟨pd,1,none⟩) (.inr (by simp)) (nilV)
 replace d := d.setOther (a := ⟨pd,1,none⟩) (by dsimp only;exact hne) (nilV)
 replace b := zset b 1 (nilV) (by rfl)
 replace k0 := k0.setCell (a := ⟨pd,2,none⟩) (.inr (by simp)) (.int .i64 0)
 replace d := d.setOther (a := ⟨pd,2,none⟩) (by dsimp only;exact hne) (.int .i64 0)
 replace b := zset b 2 (.int .i64 0) (by rfl)
 replace k0 := k0.setCell (a := ⟨pd,3,none⟩) (.inr (by simp)) (nilV)
 replace d := d.setOther (a := ⟨pd,3,none⟩) (by dsimp only;exact hne) (nilV)
 replace b := zset b 3 (nilV) (by rfl)
 replace k0 := k0.setCell (a := ⟨pd,4,none⟩) (.inr (by simp)) (.int .i64 0)
 replace d := d.setOther (a := ⟨pd,4,none⟩) (by dsimp only;exact hne) (.int .i64 0)
 replace b := zset b 4 (.int .i64 0) (by rfl)
 replace k0 := k0.setCell (a := ⟨pd,5,none⟩) (.inr (by simp)) (nilV)
 replace d := d.setOther (a := ⟨pd,5,none⟩) (by dsimp only;exact hne) (nilV)
 replace b := zset b 5 (nilV) (by rfl)
 replace k0 := k0.setCell (a := ⟨pd,6,none⟩) (.inr (by simp)) (.int .i64 0)
 replace d := d.setOther (a := ⟨pd,6,none⟩) (by dsimp only;exact hne) (.int .i64 0)
 replace b := zset b 6 (.int .i64 0) (by rfl)
 replace k0 := k0.setCell (a := ⟨pd,7,none⟩) (.inr (by simp)) (nilV)
 replace d := d.setOther (a := ⟨pd,7,none⟩) (by dsimp only;exact hne) (nilV)
 replace b := zset b 7 (nilV) (by rfl)
 replace k0 := k0.setCell (a := ⟨pd,8,none⟩) (.inr (by simp)) (.int .i64 0)
 replace d := d.setOther (a := ⟨pd,8,none⟩) (by dsimp only;exact hne) (.int .i64 0)
 replace b := zset b 8 (.int .i64 0) (by rfl)
 replace k0 := k0.setCell (a := ⟨pd,9,none⟩) (.inr (by simp)) (.int .i64 0)
 replace d := d.setOther (a := ⟨pd,9,none⟩) (by dsimp only;exact hne) (.int .i64 0)
 replace b := zset b 9 (.int .i64 0) (by rfl)
 replace k0 := k0.setCell (a := ⟨pd,10,none⟩) (.inr (by simp)) (.int .i64 0)
 replace d := d.setOther (a := ⟨pd,10,none⟩) (by dsimp only;exact hne) (.int .i64 0)
 replace b := zset b 10 (.int .i64 0) (by rfl)
 replace k0 := k0.setCell (a := ⟨pd,11,none⟩) (.inr (by simp)) (nilV)
 replace d := d.setOther (a := ⟨pd,11,none⟩) (by dsimp only;exact hne) (nilV)
 replace b := zset b 11 (nilV) (by rfl)
 replace k0 := (k0.setCell (a := ⟨pe,0,none⟩) (.inr (by simp)) (.int .i64 n)).drew
 replace b := (b.setOther (a := ⟨pe,0,none⟩) (by dsimp only;exact hne') (.int .i64 n)).drew
 have d2 := zone d (.int .i64 n)
 replace d := d2.drew
 refine ⟨rfl,.panicking (raisedBy n true :: older),?_,.tuple #[],by simp [results,Tryz.results47],rfl,rfl,b,d,k0⟩
 simp [raisedBy]
end

section
open Go.RowKit

def varR (B : List Int) : Nat → Nat → Nat → Nat → Nat × Int × Nat
 | 0,_,_,k => (0,18,k)
 | f + 1,i,a,k =>
  if k < B.length then
   if 128 ≤ byteX B k then varR B f (i + 1) (a + (byteX B k).toNat % 128 * 2 ^ (7 * i)) (k + 1)
   else if byteX B k = 0 ∧ 0 < i then (0,5,k + 1)
   else if 4611686018427387903 < a + (byteX B k).toNat % 128 * 2 ^ (7 * i) then (0,18,k + 1)
   else (a + (byteX B k).toNat % 128 * 2 ^ (7 * i),0,k + 1)
  else (0,3,k)

theorem varR_bound (B : List Int) : ∀ (f i a k : Nat),k ≤ B.length → (varR B f i a k).1 < 4611686018427387904 ∧ k ≤ (varR B f i a k).2.2 ∧ (varR B f i a k).2.2 ≤ B.length
 | 0,_,_,k,h => ⟨by simp [varR],by simp [varR],by simpa [varR] using h⟩
 | f + 1,i,a,k,h => by
  unfold varR
  split
  ·rename_i hk
   split
   ·obtain ⟨h1,h2,h3⟩ := varR_bound B f (i + 1) (a + (byteX B k).toNat % 128 * 2 ^ (7 * i)) (k + 1) hk
    exact ⟨h1,by omega,h3⟩
   ·split
    ·exact ⟨by simp,by simp,hk⟩
    ·split
     ·exact ⟨by simp,by simp,hk⟩
     ·rename_i hb
      exact ⟨by simp only;omega,by simp,hk⟩
  ·exact ⟨by simp,by simp,by simpa using h⟩

theorem and127_all : ∀ x : Fin 256,bits BinOp.and IntKind.u8 ((x.val : Nat) : Int) 127 = ((x.val % 128 : Nat) : Int) := by decide +kernel
theorem and127 {x : Int} (h0 : 0 ≤ x) (h1 : x ≤ 255) : bits BinOp.and IntKind.u8 x 127 = x % 128 := by
 obtain ⟨a,rfl⟩ := Int.eq_ofNat_of_zero_le h0
 have h := and127_all ⟨a,by omega⟩
 simpa using h
theorem or_shl {a x i : Nat} (hi : i ≤ 8) (ha : a < 2 ^ (7 * i)) (hx : x < 128) : bits BinOp.or IntKind.u64 (a : Int) ((x * 2 ^ (7 * i) : Nat) : Int) = ((a + x * 2 ^ (7 * i) : Nat) : Int) ∧ a + x * 2 ^ (7 * i) < 2 ^ (7 * (i + 1)) ∧ x * 2 ^ (7 * i) < 18446744073709551616 ∧ a < 18446744073709551616 := by
 have e : 2 ^ (7 * (i + 1)) = 128 * 2 ^ (7 * i) := by rw [Nat.mul_add,Nat.pow_add];omega
 have h3 : (x + 1) * 2 ^ (7 * i) ≤ 128 * 2 ^ (7 * i) := Nat.mul_le_mul_right _ (by omega)
 rw [Nat.add_mul,Nat.one_mul] at h3
 have h4 : 2 ^ (7 * i) ≤ 2 ^ 56 := Nat.pow_le_pow_right (by decide) (by omega)
 have h5 : (2 : Nat) ^ 56 = 72057594037927936 := by decide
 rw [h5] at h4
 refine ⟨?_,by omega,by omega,by omega⟩
 rw [bits_or_u64_nat _ _ (by omega) (by omega)]
 congr 1
 rw [Nat.or_comm,Nat.mul_comm x,← Nat.two_pow_add_eq_or_of_lt ha x,Nat.add_comm]

set_option maxHeartbeats 4000000 in
theorem varint1_any (p h k : Nat) (v : Value) (B : List Int) (w : World) (hc : Cur w p v B k) (hb : Blk w h #[.pointer (some ⟨p,0,none⟩)] 71) (hhp : h ≠ p) :
  Calls Tryz.prog 132 #[.pointer (some ⟨h,0,none⟩)] w (CurEnd w p v B (.int .u64 ((varR B 9 0 0 k).1 : Int)) (varR B 9 0 0 k).2.1 (varR B 9 0 0 k).2.2) := by
 obtain ⟨ad,n0,c0,rfl,-,-⟩ := hc.rd.form
 have HC := Lib.hid hc
 have HB := Lib.hid hb
 have HBY := Lib.hid hc.byte
 clear hc hb
 obtain ⟨R,hR⟩ : ∃ R,R = varR B 9 0 0 k := ⟨_,rfl⟩
 rw [← hR]
 have HR0 := Lib.hid hR
 clear hR
 obtain ⟨X,E,K⟩ := R
 dsimp only
 go_enter Tryz.func132,Tryz.ntmps132
 go_wp2_with fail
 go_loopw [3,7] (fun m i wr => ∃ (j a : Nat),j ≤ 9 ∧ i = .int .i64 j ∧ m = .int .u64 (a : Int) ∧ Hid (a < 2 ^ (7 * j)) ∧ Hid ((X,E,K) = varR B (9 - j) j a (k + j)) ∧ Cur wr p (.slice ad n0 c0) B (k + j) ∧ Keeps w wr [p]) (fun _ i _ => 9 - (intOf i).toNat)
 case atStart => exact ⟨0,0,by omega,rfl,rfl,(by decide : (0 : Nat) < 2 ^ (7 * 0)),HR0.out,HC.out,Keeps.refl _ _⟩
 case round =>
  obtain ⟨j,a,hj,rfl,rfl,ha,hR,cur,kk⟩ := hrel
  by_cases hlt : j < 9
  ·have b1 := HB.out.keeps kk (by simpa using hhp)
   obtain ⟨d0,-⟩ := b1.one
   have CUR := Lib.hid cur
   have HBT := Lib.hid (byte_any p (k + j) (.slice ad n0 c0) B wr cur)
   have hj9 : (j : Int) < 9 := by omega
   clear cur b1
   have hbx : 0 ≤ byteX B (k + j) ∧ byteX B (k + j) ≤ 255 := by
    unfold byteX
    cases hx : B[k + j]? with
    | none => simp
    | some x => exact HBY.out x (List.mem_of_getElem? hx)
   have HRS : Hid (∀ f,9 - j = f + 1 → varR B (9 - j) j a (k + j) = if k + j < B.length then
   if 128 ≤ byteX B (k + j) then varR B f (j + 1) (a + (byteX B (k + j)).toNat % 128 * 2 ^ (7 * j)) (k + j + 1)
   else if byteX B (k + j) = 0 ∧ 0 < j then (0,5,k + j + 1)
   else if 4611686018427387903 < a + (byteX B (k + j)).toNat % 128 * 2 ^ (7 * j) then (0,18,k + j + 1)
   else (a + (byteX B (k + j)).toNat % 128 * 2 ^ (7 * j),0,k + j + 1)
  else (0,3,k + j)) := fun f hf => by rw [hf];rfl
   by_cases hin : k + j < B.length
   ·have eE : byteE B (k + j) = 0 := if_pos hin
    have eK : byteK B (k + j) = k + j + 1 := if_pos hin
    rw [eE,eK] at HBT
    generalize byteX B (k + j) = x at *
    have hand := and127 hbx.1 hbx.2
    obtain ⟨o1,o2,o3,o4⟩ := or_shl (x := x.toNat % 128) (by omega : j ≤ 8) ha.out (by omega)
    have hsh : IntKind.u64.wrap (x % 128 * 2 ^ (7 * j)) = ((x.toNat % 128 * 2 ^ (7 * j) : Nat) : Int) := by
     have e : (x % 128 * 2 ^ (7 * j) : Int) = ((x.toNat % 128 * 2 ^ (7 * j) : Nat) : Int) := by
      rw [Int.natCast_mul,Int.natCast_emod,Int.toNat_of_nonneg hbx.1]
      congr 1
     rw [e,IntKind.wrap_u64]
     omega
    generalize x.toNat % 128 * 2 ^ (7 * j) = y at *
    obtain ⟨q,hq⟩ : ∃ q,q = a + y := ⟨_,rfl⟩
    rw [← hq] at o1 o2 HRS
    have O2 := Lib.hid o2
    have HQ := Lib.hid hq
    clear eE eK o2 o3 o4 hq ha
    have HR2 : Hid ((X,E,K) = if 128 ≤ x then varR B (8 - j) (j + 1) q (k + j + 1) else if x = 0 ∧ 0 < j then (0,5,k + j + 1) else if 4611686018427387903 < q then (0,18,k + j + 1) else (q,0,k + j + 1)) := by
     have := hR.out
     rw [HRS.out (8 - j) (by omega),if_pos hin] at this
     exact this
    clear HRS hR
    by_cases hx1 : 128 ≤ x
    ·have hr := HR2.out
     rw [if_pos hx1] at hr
     have HR3 := Lib.hid hr
     clear hr HR2
     go_wp2_with (go_at_call 129;refine HBT.out.mono ?_;rintro e w2 ⟨rfl,cur2,k2⟩)
     refine ⟨⟨j + 1,q,by omega,rfl,rfl,O2.out,?_,?_,kk.trans k2 (fun i hi _ => hi)⟩,?_⟩
     ·show _ = varR B (9 - (j + 1)) (j + 1) q (k + (j + 1))
      rw [show 9 - (j + 1) = 8 - j by omega,show k + (j + 1) = k + j + 1 by omega]
      exact HR3.out
     ·rw [show k + (j + 1) = k + j + 1 by omega];exact cur2
     ·simp [intOf];omega
    ·have hx1' : decide (128 ≤ x) = false := decide_eq_false hx1
     by_cases hx0 : x = 0 ∧ 0 < j
     ·have hr := HR2.out
      rw [if_neg hx1,if_pos hx0] at hr
      obtain ⟨rfl,hj0⟩ := hx0
      cases hr
      have hj0' : (0 : Int) < (j : Int) := by omega
      clear HR2
      go_wp2_with (go_at_call 129;refine HBT.out.mono ?_;rintro e w2 ⟨rfl,cur2,k2⟩)
      exact bodyPost_ret (v := .tuple #[.int .u64 (0),.int .i64 5]) (by simp [results,Tryz.results132]) rfl ⟨rfl,cur2,kk.trans k2 (fun i hi _ => hi)⟩
     ·have hr := HR2.out
      rw [if_neg hx1,if_neg hx0] at hr
      have hguard : (x == 0) = false ∨ ((x == 0) = true ∧ ¬ 0 < j) := by
       by_cases hz : x = 0
       ·exact .inr ⟨by simp [hz],by omega⟩
       ·exact .inl (by simpa using hz)
      clear HR2
      by_cases hbig : 4611686018427387903 < q
      ·have hbig' : (4611686018427387903 : Int) < (q : Int) := by omega
       rw [if_pos hbig] at hr
       cases hr
       rcases hguard with hg | ⟨hg,hg2⟩
       all_goals
        go_wp2_with (go_at_call 129;refine HBT.out.mono ?_;rintro e w2 ⟨rfl,cur2,k2⟩)
        all_goals (first | (exfalso;omega) | exact bodyPost_ret (v := .tuple #[.int .u64 (0),.int .i64 18]) (by simp [results,Tryz.results132]) rfl ⟨rfl,cur2,kk.trans k2 (fun i hi _ => hi)⟩)
      ·have hbig' : decide ((4611686018427387903 : Int) < (q : Int)) = false := decide_eq_false (by omega)
       rw [if_neg hbig] at hr
       cases hr
       rcases hguard with hg | ⟨hg,hg2⟩
       all_goals
        go_wp2_with (go_at_call 129;refine HBT.out.mono ?_;rintro e w2 ⟨rfl,cur2,k2⟩)
        all_goals (first | (exfalso;omega) | exact bodyPost_ret (v := .tuple #[.int .u64 (X : Int),.int .i64 0]) (by simp [results,Tryz.results132]) rfl ⟨rfl,cur2,kk.trans k2 (fun i hi _ => hi)⟩)
   ·have eE : byteE B (k + j) = 3 := if_neg hin
    have eK : byteK B (k + j) = k + j := if_neg hin
    rw [eE,eK] at HBT
    have hr := hR.out
    rw [HRS.out (8 - j) (by omega),if_neg hin] at hr
    cases hr
    generalize byteX B (k + j) = x at *
    clear eE eK HRS hR
    go_wp2_with (go_at_call 129;refine HBT.out.mono ?_;rintro e w2 ⟨rfl,cur2,k2⟩)
    exact bodyPost_ret (v := .tuple #[.int .u64 (0),.int .i64 3]) (by simp [results,Tryz.results132]) rfl ⟨rfl,cur2,kk.trans k2 (fun i hi _ => hi)⟩
  ·obtain rfl : j = 9 := by omega
   have hr := hR.out
   cases hr
   have CUR := Lib.hid cur
   clear cur hR ha
   go_wp2_with fail
   exact bodyPost_ret (v := .tuple #[.int .u64 (0),.int .i64 18]) (by simp [results,Tryz.results132]) rfl ⟨rfl,CUR.out,kk⟩

theorem varR_zero (B : List Int) : ∀ (f i a k : Nat),(varR B f i a k).2.1 ≠ 0 → (varR B f i a k).1 = 0
 | 0,_,_,_,_ => rfl
 | f + 1,i,a,k,h => by
  unfold varR at h ⊢
  split at h
  ·rename_i hk
   rw [if_pos hk]
   split at h
   ·rename_i hx;rw [if_pos hx];exact varR_zero B f _ _ _ h
   ·rename_i hx
    rw [if_neg hx]
    split at h
    ·rename_i h0;rw [if_pos h0]
    ·rename_i h0
     rw [if_neg h0]
     split at h
     ·rename_i hb;rw [if_pos hb]
     ·exact absurd rfl h
  ·rename_i hk;rw [if_neg hk]

def varX (B : List Int) (k : Nat) : Nat := (varR B 9 0 0 k).1
def varE (B : List Int) (k : Nat) : Int := (varR B 9 0 0 k).2.1
def varK (B : List Int) (k : Nat) : Nat := if varE B k = 0 then (varR B 9 0 0 k).2.2 else k

theorem varint_any (p k : Nat) (v : Value) (B : List Int) (w : World) (hc : Cur w p v B k) :
  Calls Tryz.prog 91 #[.pointer (some ⟨p,0,none⟩)] w (CurEnd w p v B (.int .u64 (varX B k : Int)) (varE B k) (varK B k)) := by
 have hp := hc.old.1
 have k0 : Keeps w (w.alloc (.cells #[.pointer (some ⟨p,0,none⟩)] 71)) [] := (Keeps.refl w []).alloc _
 have b0 := Blk.new w #[.pointer (some ⟨p,0,none⟩)] 71
 have h := readU64_any p k (varR B 9 0 0 k).2.2 v B (w.alloc (.cells #[.pointer (some ⟨p,0,none⟩)] 71)) #[.pointer (some ⟨w.heap.size,0,none⟩)] ((varR B 9 0 0 k).1 : Int) (varR B 9 0 0 k).2.1 (hc.keeps k0)
  (fun w1 k1 => varint1_any p w.heap.size k v B w1 ((hc.keeps k0).keeps k1) (b0.keeps k1 (by simp)) (by omega))
 have e1 : (if (varR B 9 0 0 k).2.1 = 0 then ((varR B 9 0 0 k).1 : Int) else 0) = (varX B k : Int) := by
  unfold varX
  split
  ·rfl
  ·rename_i hne;rw [varR_zero B 9 0 0 k hne];rfl
 rw [e1] at h
 have H : Hid (Calls Tryz.prog 131 #[.pointer (some ⟨p,0,none⟩),.func (.func 132) #[] #[.pointer (some ⟨w.heap.size,0,none⟩)]] (w.alloc (.cells #[.pointer (some ⟨p,0,none⟩)] 71))
  (CurEnd (w.alloc (.cells #[.pointer (some ⟨p,0,none⟩)] 71)) p v B (.int .u64 (varX B k : Int)) (varE B k) (varK B k))) := h
 clear h hc e1
 generalize varX B k = X at *
 generalize varE B k = E at *
 generalize varK B k = K' at *
 go_enter Tryz.func91,Tryz.ntmps91
 go_wp2_with (refine H.out.mono ?_;rintro e w1 ⟨rfl,cur1,k1⟩)
 exact bodyPost_ret (v := .tuple #[.int .u64 (X : Int),.int .i64 E]) (by simp [results,Tryz.results91]) rfl ⟨rfl,cur1,(k0.mono (by simp)).trans k1 (fun j hj _ => hj)⟩
end

section
open Go.RowKit

theorem varX_lt {B : List Int} {k : Nat} (h : k ≤ B.length) : varX B k < 4611686018427387904 := (varR_bound B 9 0 0 k h).1
def numE (B : List Int) (k M : Nat) : Int := if varE B k = 0 ∧ M < varX B k then 18 else varE B k
def numX (B : List Int) (k M : Nat) : Nat := if numE B k M = 0 then varX B k else 0
def numK (B : List Int) (k M : Nat) : Nat := if numE B k M = 0 then varK B k else k

set_option maxHeartbeats 4000000 in
theorem number1_any (p h hm k M : Nat) (v : Value) (B : List Int) (w : World) (hc : Cur w p v B k) (hb : Blk w h #[.pointer (some ⟨p,0,none⟩)] 71) (hq : Blk w hm #[.int .i64 (M : Int)] 3) (hM : M < 4611686018427387904) (hnp : hm ≠ p) :
  Calls Tryz.prog 134 #[.pointer (some ⟨h,0,none⟩),.pointer (some ⟨hm,0,none⟩)] w (CurEnd w p v B (.int .i64 (varX B k : Int)) (numE B k M) (varK B k)) := by
 have HV := Lib.hid (varint_any p k v B w hc)
 have hX := varX_lt hc.le
 have HQ := Lib.hid hq
 obtain ⟨b0,-⟩ := hb.one
 have hE : Hid (numE B k M = if varE B k = 0 ∧ M < varX B k then 18 else varE B k) := rfl
 have hmx : max (M : Int) 0 = (M : Int) := by omega
 have hmm : (M : Int) % 18446744073709551616 = (M : Int) := by omega
 clear hc hb hq
 generalize varX B k = X at *
 generalize varE B k = E at *
 generalize varK B k = K at *
 generalize numE B k M = NE at *
 have hwx : IntKind.i64.wrap (X : Int) = (X : Int) := IntWalk.i64_in _ ⟨by omega,by omega⟩
 by_cases h0 : E = 0
 ·subst h0
  by_cases hbig : M < X
  ·have hbig' : decide ((M : Int) < (X : Int)) = true := decide_eq_true (by omega)
   have he := hE.out
   rw [if_pos ⟨rfl,hbig⟩] at he
   subst he
   go_enter Tryz.func134,Tryz.ntmps134
   go_wp2_with (refine HV.out.mono ?_;rintro e w2 ⟨rfl,cur2,k2⟩;obtain ⟨m0,-⟩ := (HQ.out.keeps k2 (by simpa using hnp)).one)
   exact bodyPost_ret (v := .tuple #[.int .i64 (X : Int),.int .i64 18]) (by simp [results,Tryz.results134]) rfl ⟨rfl,cur2,k2⟩
  ·have hbig' : decide ((M : Int) < (X : Int)) = false := decide_eq_false (by omega)
   have he := hE.out
   rw [if_neg (fun h => hbig h.2)] at he
   subst he
   go_enter Tryz.func134,Tryz.ntmps134
   go_wp2_with (refine HV.out.mono ?_;rintro e w2 ⟨rfl,cur2,k2⟩;obtain ⟨m0,-⟩ := (HQ.out.keeps k2 (by simpa using hnp)).one)
   exact bodyPost_ret (v := .tuple #[.int .i64 (X : Int),.int .i64 0]) (by simp [results,Tryz.results134]) rfl ⟨rfl,cur2,k2⟩
 ·have hE0 : (E == 0) = false := by simpa using h0
  have he := hE.out
  rw [if_neg (fun h => h0 h.1)] at he
  subst he
  go_enter Tryz.func134,Tryz.ntmps134
  go_wp2_with (refine HV.out.mono ?_;rintro e w2 ⟨rfl,cur2,k2⟩;obtain ⟨m0,-⟩ := (HQ.out.keeps k2 (by simpa using hnp)).one)
  exact bodyPost_ret (v := .tuple #[.int .i64 (X : Int),.int .i64 NE]) (by simp [results,Tryz.results134]) rfl ⟨rfl,cur2,k2⟩

theorem numX_iff (B : List Int) (k M : Nat) : (if numE B k M = 0 then ((varX B k : Nat) : Int) else 0) = ((numX B k M : Nat) : Int) := by
 unfold numX
 split <;> rfl

theorem number_any (p k M : Nat) (v : Value) (B : List Int) (w : World) (hc : Cur w p v B k) (hM : M < 4611686018427387904) :
  Calls Tryz.prog 94 #[.pointer (some ⟨p,0,none⟩),.int .i64 (M : Int)] w (CurEnd w p v B (.int .i64 (numX B k M : Int)) (numE B k M) (numK B k M)) := by
 have hp := hc.old.1
 have k0 : Keeps w ((w.alloc (.cells #[.pointer (some ⟨p,0,none⟩)] 71)).alloc (.cells #[.int .i64 (M : Int)] 3)) [] := ((Keeps.refl w []).alloc _).alloc _
 have b0 := (Blk.new w #[.pointer (some ⟨p,0,none⟩)] 71).alloc (.cells #[.int .i64 (M : Int)] 3)
 have b1 := Blk.new (w.alloc (.cells #[.pointer (some ⟨p,0,none⟩)] 71)) #[.int .i64 (M : Int)] 3
 simp only [World.size_alloc] at b1
 have h := readInt_any p k (varK B k) v B ((w.alloc (.cells #[.pointer (some ⟨p,0,none⟩)] 71)).alloc (.cells #[.int .i64 (M : Int)] 3)) #[.pointer (some ⟨w.heap.size,0,none⟩),.pointer (some ⟨w.heap.size + 1,0,none⟩)] ((varX B k : Nat) : Int) (numE B k M) (hc.keeps k0)
  (fun w1 k1 => number1_any p w.heap.size (w.heap.size + 1) k M v B w1 ((hc.keeps k0).keeps k1) (b0.keeps k1 (by simp)) (b1.keeps k1 (by simp)) hM (by omega))
 rw [numX_iff] at h
 have H : Hid (Calls Tryz.prog 133 #[.pointer (some ⟨p,0,none⟩),.func (.func 134) #[] #[.pointer (some ⟨w.heap.size,0,none⟩),.pointer (some ⟨w.heap.size + 1,0,none⟩)]] ((w.alloc (.cells #[.pointer (some ⟨p,0,none⟩)] 71)).alloc (.cells #[.int .i64 (M : Int)] 3))
  (CurEnd ((w.alloc (.cells #[.pointer (some ⟨p,0,none⟩)] 71)).alloc (.cells #[.int .i64 (M : Int)] 3)) p v B (.int .i64 (numX B k M : Int)) (numE B k M) (numK B k M))) := h
 clear h hc
 generalize numX B k M = X at *
 generalize numE B k M = E at *
 generalize numK B k M = K' at *
 go_enter Tryz.func94,Tryz.ntmps94
 go_wp2_with (refine H.out.mono ?_;rintro e w1 ⟨rfl,cur1,k1⟩)
 exact bodyPost_ret (v := .tuple #[.int .i64 (X : Int),.int .i64 E]) (by simp [results,Tryz.results94]) rfl ⟨rfl,cur1,(k0.mono (by simp)).trans k1 (fun j hj _ => hj)⟩

theorem new_any (v : Value) (B : List Int) (w : World) (hv : RdI .u8 w v B) (hn : B.length ≤ 1000000) (hx : ∀ x ∈ B,0 ≤ x ∧ x ≤ 255) :
  Calls Tryz.prog 49 #[v] w fun e w' => ∃ p v',e = .returned (.pointer (some ⟨p,0,none⟩)) ∧ w.heap.size ≤ p ∧ Cur w' p v' B 0 ∧ Keeps w w' [] := by
 have HC := Lib.hid (cloneb_any v B w hv hn)
 obtain ⟨ad,n,c,rfl,-,-⟩ := hv.form
 clear hv
 go_enter Tryz.func49,Tryz.ntmps49
 go_wp2_with (refine HC.out.mono ?_;rintro e w1 ⟨v1,rfl,own1,k1⟩;obtain ⟨a1,c1,rfl⟩ := own_form own1)
 go_ret
 have hs := k1.size
 refine ⟨_,_,rfl,hs,⟨Blk.new w1 _ _,(own_reads own1).keeps ((Keeps.refl w1 []).alloc _),Nat.zero_le _,hn,?_,hx⟩,k1.alloc _⟩
 rintro a n' c' he h0 hab
 cases he
 have := (own1.lt _ rfl).2
 omega
end

section
open Go.RowKit

theorem res_cell_cell {fn : Func} {p q : Tmp} {T U : TypeId} (h : fn.results = #[.cell p T,.cell q U]) {tmps : Array Value} {P : Program} {w : World} {a b : Addr} {v u : Value} (ht : tmps.getD p undef = .pointer (some a)) (hu : tmps.getD q undef = .pointer (some b)) (hl : (loadVar T a).run P w = .ok v w) (hm : (loadVar U b).run P w = .ok u w) :
  (results fn tmps).run P w = .ok (.tuple #[v,u]) w := by
 have ht' : tmps[p]?.getD undef = .pointer (some a) := by simpa using ht
 have hu' : tmps[q]?.getD undef = .pointer (some b) := by simpa using hu
 simp [results,h,Sem.run_bind,Result.andThen,ht',hu',asAddr,hl,hm]
theorem load_errno {w : World} {b : Nat} {n : Int} (h : Blk w b #[.int .i64 n] 33) : (loadVar 33 ⟨b,0,none⟩).run Tryz.prog w = .ok (.int .i64 n) w := by
 obtain ⟨c0,-⟩ := h.one
 go_simp

theorem slice_tail {w0 : World} {v : Value} {B : List Int} (h : RdI .u8 w0 v B) {i : Nat} (hi' : i ≤ B.length) :
  ∃ r,(∀ w,(Instr.slice 22 v (some (.int .i64 (i : Int))) none none).run Tryz.prog w = .ok r w) ∧ RdI .u8 w0 r (B.drop i) := by
 obtain ⟨i0,hi,hz0,hz1,hz2⟩ := info_parts Tryz.infoByte
 obtain ⟨ad,n,c,rfl,hn,hh⟩ := h.form
 have hcap := h.cap
 have run : ∀ w,(Instr.slice 22 (.slice ad n c) (some (.int .i64 (i : Int))) none none).run Tryz.prog w = .ok (.slice (if i < c then ad.map (·.add i) else ad) (n - i) (c - i)) w := by
  intro w
  have a1 : i ≤ n := by omega
  cases ad with
  | none =>
   obtain ⟨rfl,rfl,rfl⟩ := h.nilcap
   obtain rfl : i = 0 := by simp at hi';omega
   simp [Instr.slice,Instr.sliceBounds,Instr.sliceBound,asIntOf,run_underlying Tryz.underlying22,go_sem,sizeOf,typeInfo,hi,hz1]
  | some a =>
   by_cases hic : i < c
   ·have a3 : ¬ c = i := by omega
    simp [Instr.slice,Instr.sliceBounds,Instr.sliceBound,asIntOf,run_underlying Tryz.underlying22,go_sem,sizeOf,typeInfo,hi,hz1,a1,a3,hic]
   ·obtain rfl : i = c := by omega
    obtain rfl : i = n := by omega
    simp [Instr.slice,Instr.sliceBounds,Instr.sliceBound,asIntOf,run_underlying Tryz.underlying22,go_sem,sizeOf,typeInfo,hi,hz1]
 refine ⟨_,run,?_⟩
 by_cases he : n - i = 0
 ·rw [he,show B.drop i = [] from List.drop_eq_nil_of_le (by omega)]
  cases ad with
  | none =>
   obtain ⟨rfl,rfl,rfl⟩ := h.nilcap
   have : (0 : Nat) - i = 0 := by omega
   rw [this]
   simp
   exact .nil
  | some a => split <;> exact .zero _ _
 ·obtain ⟨b,o,rfl,-,-⟩ := h.addr (by omega)
  rw [if_pos (by omega)]
  have e : Option.map (fun x : Addr => x.add i) (some ⟨b,o,none⟩) = some ⟨b,o + i,none⟩ := by simp [Addr.add]
  rw [e]
  have := h.piece (p := i) (q := n - i) (by omega) (c - i) (by omega)
  rwa [List.take_of_length_le (by simp;omega)] at this

set_option maxHeartbeats 4000000 in
theorem get_raw (v : Value) (l : List Int) (w : World) (hv : RdI .u8 w v l) (hl : ∀ x ∈ l,0 ≤ x ∧ x ≤ 255) (hn : l.length ≤ 1000000) (hm : markB l = false) :
  Calls Tryz.prog 24 #[v] w fun e w' => ∃ x,e = .returned (.tuple #[.agg (rawC x),.int .i64 0]) ∧ RdI .u8 w' x l ∧ Fresh w.heap.size x ∧ Keeps w w' [] := by
 have HM := Lib.hid (fun w1 (k : Keeps w w1 []) => marked_any v l w1 (hv.keeps k) hl)
 have HR := Lib.hid (fun w1 (k : Keeps w w1 []) => raw_yes v l w1 (hv.keeps k) hl hn hm)
 rw [hm] at HM
 obtain ⟨A0,n,c,rfl,-,-⟩ := hv.form
 have k0 : Keeps w ((w.alloc (.cells zeroC 32)).alloc (.cells #[.int .i64 0] 33)) [] := ((Keeps.refl w []).alloc _).alloc _
 have bd := (Blk.new w zeroC 32).alloc (.cells #[.int .i64 0] 33)
 have be := Blk.new (w.alloc (.cells zeroC 32)) #[.int .i64 0] 33
 simp only [World.size_alloc] at be
 clear hv hl hm hn
 go_enter_defers Tryz.func24,Tryz.ntmps24
 go_wp2_with (first
  | (go_at_call 31;(refine (HM.out _ k0).mono ?_;rintro e w1 ⟨rfl,k1⟩;have bd1 := bd.keeps k1 (by simp);have be1 := be.keeps k1 (by simp);have kw1 := k0.then k1))
  | (go_at_call 12;(refine (HR.out _ kw1).mono ?_;rintro e w2 ⟨x2,rfl,rx,fx,k2⟩;obtain ⟨xa,xm,xc,rfl,-,-⟩ := rx.form;have bd2 := bd1.keeps k2 (by simp);have be2 := be1.keeps k2 (by simp);have kw2 := kw1.then k2))
  | (refine wpList_store_blk rfl 32 _ _ rfl w.heap.size (rawC (.slice xa xm xc)) rfl rfl _ _ bd2 dict_size rfl (by simp [Value.oneCell']) ?_;intro W3 bd3 k3;have be3 := be2.keeps k3 (by simp);obtain ⟨e3,e4⟩ := be3.one))
 have hs := kw1.size
 have l1 := be1.lt
 have kf : Keeps W3 (W3.setCell ⟨w.heap.size + 1,0,none⟩ (.int .i64 0)) [w.heap.size + 1] := (Keeps.refl _ _).setCell (.inr (by simp)) _
 have bd4 := bd3.keeps kf (by simp)
 have be4 := zone be3 (.int .i64 0)
 have rx4 := (rx.keepsS k3 (fun ad n' c' he h0 hm => by have := fx ad n' c' he;simp at hm;omega)).keepsS kf (fun ad n' c' he h0 hm => by have := fx ad n' c' he;simp at hm;omega)
 refine ⟨.tuple #[.agg (rawC (.slice xa xm xc)),.int .i64 0],res_cell_cell rfl rfl rfl (load_dict bd4 rfl) (load_errno be4),_,rfl,rx4,fx.mono hs,?_⟩
 exact (kw2.trans k3 (fun j hj hlt => by simp at hj;omega)).trans kf (fun j hj hlt => by simp at hj;omega)

set_option maxHeartbeats 4000000 in
theorem get_bad (v : Value) (l : List Int) (n : Int) (w : World) (hv : RdI .u8 w v l) (hl : ∀ x ∈ l,0 ≤ x ∧ x ≤ 255) (hn : l.length ≤ 1000000) (hm : markB l = true)
  (hfull : ∀ W p v',Cur W p v' (l.drop 4) 0 → Calls Tryz.prog 48 #[.pointer (some ⟨p,0,none⟩)] W fun e w' => e = .panicked [raisedBy n false] ∧ Keeps W w' [p]) :
  Calls Tryz.prog 24 #[v] w fun e w' => e = .returned (.tuple #[.agg zeroC,.int .i64 n]) ∧ Keeps w w' [] := by
 have hmf : ∀ (fn : Fn) (first cap : Array Value) (w : World),(Instr.makeFunc fn first cap).run Tryz.prog w = .ok (.func fn first cap) w := fun _ _ _ _ => rfl
 have HM := Lib.hid (fun w1 (k : Keeps w w1 []) => marked_any v l w1 (hv.keeps k) hl)
 rw [hm] at HM
 have h4 : 4 ≤ l.length := by
  have := congrArg List.length (of_decide_eq_true hm)
  simp at this;omega
 obtain ⟨r,hr0,rr⟩ := slice_tail hv (i := 4) h4
 have hr : ∀ w,(Instr.slice 22 v (some (.int .i64 4)) none none).run Tryz.prog w = .ok r w := hr0
 have HNW := Lib.hid (fun w1 (k : Keeps w w1 []) => new_any r (l.drop 4) w1 (rr.keeps k) (by simp;omega) (fun x hx => hl x (List.mem_of_mem_drop hx)))
 have HF := Lib.hid hfull
 obtain ⟨A0,m,c,rfl,-,-⟩ := hv.form
 have k0 : Keeps w ((w.alloc (.cells zeroC 32)).alloc (.cells #[.int .i64 0] 33)) [] := ((Keeps.refl w []).alloc _).alloc _
 have bd := (Blk.new w zeroC 32).alloc (.cells #[.int .i64 0] 33)
 have be := Blk.new (w.alloc (.cells zeroC 32)) #[.int .i64 0] 33
 simp only [World.size_alloc] at be
 clear hv hl hm hn hfull rr hr0 h4
 go_enter_defers Tryz.func24,Tryz.ntmps24
 go_wp2_with (first
  | (go_at_call 31;(refine (HM.out _ k0).mono ?_;rintro e w1 ⟨rfl,k1⟩;have bd1 := bd.keeps k1 (by simp);have be1 := be.keeps k1 (by simp);have kw1 := k0.then k1))
  | (go_at_call 49;(refine (HNW.out _ kw1).mono ?_;rintro e w2 ⟨p,v2,rfl,hp,cur2,k2⟩;have bd2 := bd1.keeps k2 (by simp);have be2 := be1.keeps k2 (by simp);have kw2 := kw1.then k2))
  | (go_at_call 48;(refine (HF.out _ _ _ cur2).mono ?_;rintro e w3 ⟨rfl,k3⟩)))
 have l1 := be1.lt
 have hs := kw1.size
 have bd3 := bd2.keeps k3 (by simp;omega)
 have be3 := be2.keeps k3 (by simp;omega)
 have kw3 := kw2.trans k3 (fun j hj hlt => by simp at hj;omega)
 refine leaves_cons (f := 47) (args := #[.pointer (some ⟨w.heap.size,0,none⟩),.pointer (some ⟨w.heap.size + 1,0,none⟩)]) (by simp) (by simp [go_sem]) ?_
 refine (dget_back _ _ n _ [] _ bd3 be3 (by omega)).mono ?_
 rintro e u' w4 ⟨rfl,rfl,bd4,be4,k4⟩
 exact ⟨.tuple #[.agg zeroC,.int .i64 n],res_cell_cell rfl rfl rfl (load_dict bd4 rfl) (load_errno be4),rfl,kw3.trans k4 (fun j hj hlt => by simp at hj;omega)⟩
end

section
open Go.RowKit

set_option maxHeartbeats 1000000 in
theorem sameInts_yes (v1 v2 : Value) (l : List Int) (w : World) (h1 : RdI .i64 w v1 l) (h2 : RdI .i64 w v2 l) (hn : l.length ≤ 1000000) :
  Calls Tryz.prog 34 #[v1,v2] w fun e w' => e = .returned (.bool true) ∧ ∃ m,w' = w.drewN m := by
 obtain ⟨A1,n,c1,rfl,hn1,-⟩ := h1.form
 obtain ⟨A2,n2,c2,rfl,hn2,-⟩ := h2.form
 obtain rfl : n2 = n := by omega
 have H1 := Lib.hid h1
 have H2 := Lib.hid h2
 have HN := Lib.hid hn1
 have hn' : n2 ≤ 1000000 := by omega
 clear h1 h2 hn1 hn2 hn
 go_enter Tryz.func34,Tryz.ntmps34
 go_wp2_with fail
 go_loopw [5] (fun i wr => ∃ k nd : Nat,k ≤ n2 ∧ i = .int .i64 k ∧ wr = w.drewN nd) (fun i _ => n2 - (intOf i).toNat)
 case atStart => exact ⟨0,0,Nat.zero_le _,rfl,rfl⟩
 case round =>
  obtain ⟨k,nd,hk,rfl,rfl⟩ := hrel
  by_cases hlt : k < n2
  ·obtain ⟨x,hx⟩ : ∃ x,l[k]? = some x := ⟨_,List.getElem?_eq_getElem (by have := HN.out;omega)⟩
   obtain ⟨b,o,rfl,hb,hc⟩ := H1.out.at hx
   obtain ⟨b2,o2,rfl,hb2,hc2⟩ := H2.out.at hx
   have hcap := H1.out.cap
   have hcap2 := H2.out.cap
   have hkn : (k : Int) < (n2 : Int) := by omega
   have hk0 : (0 : Int) ≤ (k : Int) := Int.natCast_nonneg _
   clear hx
   go_wp2_with fail
   go_quiet (fail)
   go_wp2_with fail
   go_roundw
   case rel => exact ⟨k + 1,nd + nq,by omega,by go_num,rfl⟩
   case measure => simp [intOf];omega
  ·have : k = n2 := by omega
   subst this
   go_wp2_with fail
   go_ret
   exact ⟨rfl,_,rfl⟩

set_option maxHeartbeats 2000000 in
theorem tsame_yes (g : Int) (v1 v2 : Value) (l : List Int) (w : World) (h1 : RdI .i64 w v1 l) (h2 : RdI .i64 w v2 l) (hn : l.length ≤ 1000000) :
  Calls Tryz.prog 35 #[.agg #[.int .i64 g,v1],.agg #[.int .i64 g,v2]] w fun e w' => e = .returned (.bool true) ∧ Keeps w w' [] := by
 obtain ⟨A1,n,c1,rfl,hn1,-⟩ := h1.form
 obtain ⟨A2,n2,c2,rfl,hn2,-⟩ := h2.form
 obtain rfl : n2 = n := by omega
 have H1 := Lib.hid h1
 have H2 := Lib.hid h2
 have HN := Lib.hid hn1
 have hn' : n2 ≤ 1000000 := by omega
 have k0 : Keeps w ((w.alloc (.cells #[.int .i64 g,.slice A1 n2 c1] 27)).alloc (.cells #[.int .i64 g,.slice A2 n2 c2] 27)) [] := ((Keeps.refl w []).alloc _).alloc _
 have b1 := (Blk.new w #[.int .i64 g,.slice A1 n2 c1] 27).alloc (.cells #[.int .i64 g,.slice A2 n2 c2] 27)
 have b2 := Blk.new (w.alloc (.cells #[.int .i64 g,.slice A1 n2 c1] 27)) #[.int .i64 g,.slice A2 n2 c2] 27
 simp only [World.size_alloc] at b2
 clear h1 h2 hn1 hn2 hn
 go_enter Tryz.func35,Tryz.ntmps35
 go_wp2_with fail
 generalize ((w.alloc (.cells #[.int .i64 g,.slice A1 n2 c1] 27)).alloc (.cells #[.int .i64 g,.slice A2 n2 c2] 27)) = w0 at *
 obtain ⟨p1,p2⟩ := (⟨b1.cell 1,b2.cell 1⟩ : _ ∧ _)
 simp at p1 p2
 go_loopw [5] (fun i wr => ∃ k nd : Nat,k ≤ n2 ∧ i = .int .i64 k ∧ wr = w0.drewN nd) (fun i _ => n2 - (intOf i).toNat)
 case atStart => exact ⟨0,0,Nat.zero_le _,rfl,rfl⟩
 case round =>
  obtain ⟨k,nd,hk,rfl,rfl⟩ := hrel
  by_cases hlt : k < n2
  ·obtain ⟨x,hx⟩ : ∃ x,l[k]? = some x := ⟨_,List.getElem?_eq_getElem (by have := HN.out;omega)⟩
   obtain ⟨b,o,rfl,hb,hc⟩ := H1.out.at hx
   obtain ⟨bb,oo,rfl,hbb,hcc⟩ := H2.out.at hx
   have hcap := H1.out.cap
   have hcap2 := H2.out.cap
   have hkn : (k : Int) < (n2 : Int) := by omega
   have hk0 : (0 : Int) ≤ (k : Int) := Int.natCast_nonneg _
   have hc' := (k0.cell (p := ⟨b,o + k,none⟩) hb (by simp)).trans hc
   have hcc' := (k0.cell (p := ⟨bb,oo + k,none⟩) hbb (by simp)).trans hcc
   clear hx hc hcc b1 b2
   go_wp2_with fail
   go_quiet (fail)
   go_wp2_with fail
   go_roundw
   case rel => exact ⟨k + 1,nd + nq,by omega,by go_num,rfl⟩
   case measure => simp [intOf];omega
  ·have : k = n2 := by omega
   subst this
   clear b1 b2
   go_wp2_with fail
   go_ret
   exact ⟨rfl,k0.drewN _⟩
end

section
open Go.RowKit

theorem eq_three (a b c a' b' c' : Int) (w : World) : (Op.equalIn 10000 28 (.agg #[.int .i64 a,.int .i64 b,.int .i64 c]) (.agg #[.int .i64 a',.int .i64 b',.int .i64 c'])).run Tryz.prog w = .ok (a == a' && (b == b' && c == c')) w := by
 obtain ⟨i,hi,-⟩ := info_parts Tryz.infoInt
 rw [show (10000 : Nat) = 9999 + 1 from rfl,run_equalIn_array w 9999 _ _ Tryz.underlying28 hi]
 have hc : Tryz.prog.cellsOf 3 = 1 := by kernel_rfl
 have hp : ∀ (xs : Array Value) (j : Nat) (v : Value),xs[j]? = some v → (part 3 xs j).run Tryz.prog w = .ok v w := fun xs j v h => by
  have ha : (isAgg 3).run Tryz.prog w = .ok false w := by kernel_rfl
  simp [part,Sem.run_bind,ha,h]
 have he : ∀ x y : Int,(Op.equalIn 9999 3 (.int .i64 x) (.int .i64 y)).run Tryz.prog w = .ok (x == y) w := fun x y => by
  rw [show (9999 : Nat) = 9998 + 1 from rfl,Op.equalIn]
  simp [go_sem]
 rw [show List.range 3 = [0,1,2] from rfl,hc]
 have h0 := hp #[Value.int .i64 a,.int .i64 b,.int .i64 c] (0 * 1) (.int .i64 a) rfl
 have h1 := hp #[Value.int .i64 a,.int .i64 b,.int .i64 c] (1 * 1) (.int .i64 b) rfl
 have h2 := hp #[Value.int .i64 a,.int .i64 b,.int .i64 c] (2 * 1) (.int .i64 c) rfl
 have h0' := hp #[Value.int .i64 a',.int .i64 b',.int .i64 c'] (0 * 1) (.int .i64 a') rfl
 have h1' := hp #[Value.int .i64 a',.int .i64 b',.int .i64 c'] (1 * 1) (.int .i64 b') rfl
 have h2' := hp #[Value.int .i64 a',.int .i64 b',.int .i64 c'] (2 * 1) (.int .i64 c') rfl
 have heA := he a a'
 have heB := he b b'
 have heC := he c c'
 clear he hp
 generalize (a == a') = A at *
 generalize (b == b') = B at *
 generalize (c == c') = C at *
 simp only [Nat.zero_mul,Nat.mul_one] at h0 h1 h2 h0' h1' h2'
 cases A <;> cases B <;> cases C <;> simp [Op.eqItems,Sem.run_bind,h0,h1,h2,h0',h1',h2',heA,heB,heC]
end

end Go.Proofs.YtcmagccfagijlaaGreat
