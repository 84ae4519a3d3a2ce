/-
  Walks over package weights: Decode, but for format 1. (Printed by mkVN.py.)
-/
import Derived.Test.YtcmagccfagijlaaGreatQ14
import Derived.Laws.EntriesVeiled
namespace Go.Proofs.YtcmagccfagijlaaGreat
set_option linter.unusedVariables false
set_option linter.unusedSimpArgs false
set_option linter.unusedSectionVars false
set_option maxRecDepth 100000
open Go.RowKit

theorem byteX_bound {B : List Int} (h : ∀ x ∈ B,0 ≤ x ∧ x ≤ 255) (k : Nat) : 0 ≤ byteX B k ∧ byteX B k ≤ 255 := by
 unfold byteX
 cases hx : B[k]? with
 | none => simp
 | some x => exact h x (List.mem_of_getElem? hx)

def DecEnd (w : World) (p : Nat) (v : Value) (B : List Int) (out : List Int) (n : Int) (k' : Nat) (e : Ending) (w' : World) : Prop :=
 ∃ r,e = .returned (.tuple #[r,.int .i64 n]) ∧ RdI .i64 w' r out ∧ Fresh w.heap.size r ∧ Cur w' p v B k' ∧ Keeps w w' [p]

set_option maxHeartbeats 4000000 in
theorem decode_num (p k : Nat) (v : Value) (B : List Int) (w : World) (hc : Cur w p v B k) (hE : numE B k 255 ≠ 0) :
  Calls Tryz.prog 88 #[.pointer (some ⟨p,0,none⟩)] w (DecEnd w p v B [] (numE B k 255) (numK B k 255)) := by
 have hmf : ∀ (fn : Fn) (first cap : Array Value) (w : World),(Instr.makeFunc fn first cap).run Tryz.prog w = .ok (.func fn first cap) w := fun _ _ _ _ => rfl
 have hlp := hc.old.1
 have HOLD := Lib.hid hc.old.2
 have k0 : Keeps w (((w.alloc (.cells #[.slice none 0 0] 25)).alloc (.cells #[.int .i64 0] 33)).alloc (.cells #[.pointer (some ⟨p,0,none⟩)] 164)) [] := (((Keeps.refl w []).alloc _).alloc _).alloc _
 have bo := ((Blk.new w #[.slice none 0 0] 25).alloc (.cells #[.int .i64 0] 33)).alloc (.cells #[.pointer (some ⟨p,0,none⟩)] 164)
 have be := (Blk.new (w.alloc (.cells #[.slice none 0 0] 25)) #[.int .i64 0] 33).alloc (.cells #[.pointer (some ⟨p,0,none⟩)] 164)
 have br := Blk.new ((w.alloc (.cells #[.slice none 0 0] 25)).alloc (.cells #[.int .i64 0] 33)) #[.pointer (some ⟨p,0,none⟩)] 164
 simp only [World.size_alloc] at be br
 have HN := Lib.hid (rnumber_any p k 255 v B _ (hc.keeps k0) (by decide))
 clear hc
 generalize numX B k 255 = X at *
 generalize numE B k 255 = E at *
 generalize numK B k 255 = K at *
 go_enter_defers Tryz.func88,Tryz.ntmps88
 go_wp2_with (go_at_call 124;(refine HN.out.mono ?_;rintro e w1 ⟨-,he,cur,k1⟩;obtain rfl := he hE))
 replace bo := bo.keeps k1 (by simp;omega)
 replace be := be.keeps k1 (by simp;omega)
 replace br := br.keeps k1 (by simp;omega)
 replace k0 : Keeps w w1 [p] := (k0.mono (by simp)).trans k1 (fun j hj _ => hj)
 obtain ⟨e0,e1⟩ := be.one
 obtain ⟨o0,o1⟩ := bo.one
 refine leaves_cons (f := 107) (args := #[.pointer (some ⟨w.heap.size + 1,0,none⟩),.func (.func 123) #[] #[.pointer (some ⟨w.heap.size,0,none⟩)]]) (by simp) (by simp [go_sem]) ?_
 refine (wcaught_dec _ _ (E) _ _ _ _ [] _ be bo (by omega)).mono ?_
 rintro e u' w'' ⟨rfl,rfl,rfl⟩
 refine ⟨.tuple #[.slice none 0 0,.int .i64 (E)],by simp only [results,Tryz.results88];go_simp,?_⟩
 refine ⟨_,rfl,.nil,.nil,?_,?_⟩
 ·exact cur.keepsS (S := [w.heap.size,w.heap.size + 1]) (by repeat (first | exact Keeps.refl _ _ | refine Keeps.setCell' (.inr (by simp)) ?_)) (by simp;omega) (fun ad n c he h0 hm => by have := HOLD.out ad n c he h0;simp at hm;omega)
 ·exact Keeps.setCell' (.inl (by dsimp only;omega)) (Keeps.setCell' (.inl (by dsimp only;omega)) k0)

set_option maxHeartbeats 4000000 in
theorem decode_zero (p k : Nat) (v : Value) (B : List Int) (w : World) (hc : Cur w p v B k) (hE : numE B k 255 = 0) (h0 : numX B k 255 = 0) :
  Calls Tryz.prog 88 #[.pointer (some ⟨p,0,none⟩)] w (DecEnd w p v B [] 12 (numK B k 255)) := by
 have hmf : ∀ (fn : Fn) (first cap : Array Value) (w : World),(Instr.makeFunc fn first cap).run Tryz.prog w = .ok (.func fn first cap) w := fun _ _ _ _ => rfl
 have hlp := hc.old.1
 have HOLD := Lib.hid hc.old.2
 have k0 : Keeps w (((w.alloc (.cells #[.slice none 0 0] 25)).alloc (.cells #[.int .i64 0] 33)).alloc (.cells #[.pointer (some ⟨p,0,none⟩)] 164)) [] := (((Keeps.refl w []).alloc _).alloc _).alloc _
 have bo := ((Blk.new w #[.slice none 0 0] 25).alloc (.cells #[.int .i64 0] 33)).alloc (.cells #[.pointer (some ⟨p,0,none⟩)] 164)
 have be := (Blk.new (w.alloc (.cells #[.slice none 0 0] 25)) #[.int .i64 0] 33).alloc (.cells #[.pointer (some ⟨p,0,none⟩)] 164)
 have br := Blk.new ((w.alloc (.cells #[.slice none 0 0] 25)).alloc (.cells #[.int .i64 0] 33)) #[.pointer (some ⟨p,0,none⟩)] 164
 simp only [World.size_alloc] at be br
 have HN := Lib.hid (rnumber_any p k 255 v B _ (hc.keeps k0) (by decide))
 clear hc
 generalize numX B k 255 = X at *
 generalize numK B k 255 = K at *
 generalize numE B k 255 = E at *
 subst hE
 subst h0
 go_enter_defers Tryz.func88,Tryz.ntmps88
 go_wp2_with (first | (go_at_call 124;(refine HN.out.mono ?_;rintro e w1 ⟨he,-,cur,k1⟩;obtain rfl := he rfl)) | (go_at_call 125;(refine (wis_no (by simp) 12 _).mono ?_;rintro e w2 ⟨rfl,rfl⟩)))
 replace bo := bo.keeps k1 (by simp;omega)
 replace be := be.keeps k1 (by simp;omega)
 replace br := br.keeps k1 (by simp;omega)
 replace k0 : Keeps w w1 [p] := (k0.mono (by simp)).trans k1 (fun j hj _ => hj)
 obtain ⟨e0,e1⟩ := be.one
 obtain ⟨o0,o1⟩ := bo.one
 refine leaves_cons (f := 107) (args := #[.pointer (some ⟨w.heap.size + 1,0,none⟩),.func (.func 123) #[] #[.pointer (some ⟨w.heap.size,0,none⟩)]]) (by simp) (by simp [go_sem]) ?_
 refine (wcaught_dec _ _ (12) _ _ _ _ [] _ be bo (by omega)).mono ?_
 rintro e u' w'' ⟨rfl,rfl,rfl⟩
 refine ⟨.tuple #[.slice none 0 0,.int .i64 (12)],by simp only [results,Tryz.results88];go_simp,?_⟩
 refine ⟨_,rfl,.nil,.nil,?_,?_⟩
 ·exact cur.keepsS (S := [w.heap.size,w.heap.size + 1]) (by repeat (first | exact Keeps.refl _ _ | refine Keeps.setCell' (.inr (by simp)) ?_)) (by simp;omega) (fun ad n c he h0 hm => by have := HOLD.out ad n c he h0;simp at hm;omega)
 ·exact Keeps.setCell' (.inl (by dsimp only;omega)) (Keeps.setCell' (.inl (by dsimp only;omega)) k0)

set_option maxHeartbeats 4000000 in
theorem decode_byte (p k : Nat) (v : Value) (B : List Int) (w : World) (hc : Cur w p v B k) (hE : numE B k 255 = 0) (hX : 0 < numX B k 255) (hb : byteE B (numK B k 255) ≠ 0) :
  Calls Tryz.prog 88 #[.pointer (some ⟨p,0,none⟩)] w (DecEnd w p v B [] (byteE B (numK B k 255)) (byteK B (numK B k 255))) := by
 have hmf : ∀ (fn : Fn) (first cap : Array Value) (w : World),(Instr.makeFunc fn first cap).run Tryz.prog w = .ok (.func fn first cap) w := fun _ _ _ _ => rfl
 have hlp := hc.old.1
 have HOLD := Lib.hid hc.old.2
 have k0 : Keeps w (((w.alloc (.cells #[.slice none 0 0] 25)).alloc (.cells #[.int .i64 0] 33)).alloc (.cells #[.pointer (some ⟨p,0,none⟩)] 164)) [] := (((Keeps.refl w []).alloc _).alloc _).alloc _
 have bo := ((Blk.new w #[.slice none 0 0] 25).alloc (.cells #[.int .i64 0] 33)).alloc (.cells #[.pointer (some ⟨p,0,none⟩)] 164)
 have be := (Blk.new (w.alloc (.cells #[.slice none 0 0] 25)) #[.int .i64 0] 33).alloc (.cells #[.pointer (some ⟨p,0,none⟩)] 164)
 have br := Blk.new ((w.alloc (.cells #[.slice none 0 0] 25)).alloc (.cells #[.int .i64 0] 33)) #[.pointer (some ⟨p,0,none⟩)] 164
 simp only [World.size_alloc] at be br
 have HN := Lib.hid (rnumber_any p k 255 v B _ (hc.keeps k0) (by decide))
 have HB := Lib.hid (fun W (h : Cur W p v B (numK B k 255)) => wreadByte_any p _ v B W #[.pointer (some ⟨p,0,none⟩)] #[] _ _ (byte_any p (numK B k 255) v B W h))
 clear hc
 have hX' : (0 : Int) < ((numX B k 255 : Nat) : Int) := by omega
 have hXB : numX B k 255 ≤ 255 := by
  unfold numX
  split
  ·rename_i h
   unfold numE at h
   split at h
   ·cases h
   ·rename_i hq;unfold numE at hE;omega
  ·omega
 generalize byteX B (numK B k 255) = BX at *
 generalize byteE B (numK B k 255) = BE at *
 generalize byteK B (numK B k 255) = BK at *
 generalize numX B k 255 = X at *
 generalize numK B k 255 = K at *
 generalize numE B k 255 = E at *
 subst hE
 go_enter_defers Tryz.func88,Tryz.ntmps88
 go_wp2_with (first | (go_at_call 124;(refine HN.out.mono ?_;rintro e w1 ⟨he,-,cur1,k1⟩;obtain rfl := he rfl;replace bo := bo.keeps k1 (by simp;omega);replace be := be.keeps k1 (by simp;omega);replace br := br.keeps k1 (by simp;omega);obtain ⟨br0,-⟩ := br.one;have lbr := br.lt)) | (go_at_call 125;(refine (wis_yes (by simp [*]) 12 _).mono ?_;rintro e w2 ⟨rfl,rfl⟩)))
 have bx := Blk.new w1 #[.func (.func 126) #[.agg #[.pointer (some ⟨p,0,none⟩)]] #[],.func (.func 127) #[.agg #[.pointer (some ⟨p,0,none⟩)]] #[]] 166
 have kx := (Keeps.refl w1 []).alloc (.cells #[.func (.func 126) #[.agg #[.pointer (some ⟨p,0,none⟩)]] #[],.func (.func 127) #[.agg #[.pointer (some ⟨p,0,none⟩)]] #[]] 166)
 have HB1 := HB.out _ (cur1.keeps kx)
 replace bo := bo.keeps kx (by simp)
 replace be := be.keeps kx (by simp)
 replace k0 : Keeps w _ [p] := (((k0.mono (S' := [p]) (by simp)).trans k1 (fun j hj _ => hj)).then kx)
 clear cur1 br br0 kx k1 he HB HN
 generalize (w1.alloc (.cells #[.func (.func 126) #[.agg #[.pointer (some ⟨p,0,none⟩)]] #[],.func (.func 127) #[.agg #[.pointer (some ⟨p,0,none⟩)]] #[]] 166)) = W1 at *
 generalize w1.heap.size = G at *
 refine HB1.mono ?_
 rintro e w2 ⟨-,he,cur,k2⟩
 obtain rfl := he hb
 replace bo := bo.keeps k2 (by simp;omega)
 replace be := be.keeps k2 (by simp;omega)
 replace bx := bx.keeps k2 (by simp;omega)
 replace k0 := k0.trans k2 (fun j hj _ => hj)
 obtain ⟨e0,e1⟩ := be.one
 obtain ⟨o0,o1⟩ := bo.one
 refine leaves_cons (f := 107) (args := #[.pointer (some ⟨w.heap.size + 1,0,none⟩),.func (.func 123) #[] #[.pointer (some ⟨w.heap.size,0,none⟩)]]) (by simp) (by simp [go_sem]) ?_
 refine (wcaught_dec _ _ (BE) _ _ _ _ [] _ be bo (by omega)).mono ?_
 rintro e u' w'' ⟨rfl,rfl,rfl⟩
 refine ⟨.tuple #[.slice none 0 0,.int .i64 (BE)],by simp only [results,Tryz.results88];go_simp,?_⟩
 refine ⟨_,rfl,.nil,.nil,?_,?_⟩
 ·exact cur.keepsS (S := [w.heap.size,w.heap.size + 1]) (by repeat (first | exact Keeps.refl _ _ | refine Keeps.setCell' (.inr (by simp)) ?_)) (by simp;omega) (fun ad n c he h0 hm => by have := HOLD.out ad n c he h0;simp at hm;omega)
 ·exact Keeps.setCell' (.inl (by dsimp only;omega)) (Keeps.setCell' (.inl (by dsimp only;omega)) k0)

set_option maxHeartbeats 4000000 in
theorem decode_way (p k : Nat) (v : Value) (B : List Int) (w : World) (hc : Cur w p v B k) (hE : numE B k 255 = 0) (hX : 0 < numX B k 255) (hb : byteE B (numK B k 255) = 0) (hw : 2 ≤ byteX B (numK B k 255)) :
  Calls Tryz.prog 88 #[.pointer (some ⟨p,0,none⟩)] w (DecEnd w p v B [] 12 (byteK B (numK B k 255))) := by
 have hmf : ∀ (fn : Fn) (first cap : Array Value) (w : World),(Instr.makeFunc fn first cap).run Tryz.prog w = .ok (.func fn first cap) w := fun _ _ _ _ => rfl
 have hlp := hc.old.1
 have HOLD := Lib.hid hc.old.2
 have k0 : Keeps w (((w.alloc (.cells #[.slice none 0 0] 25)).alloc (.cells #[.int .i64 0] 33)).alloc (.cells #[.pointer (some ⟨p,0,none⟩)] 164)) [] := (((Keeps.refl w []).alloc _).alloc _).alloc _
 have bo := ((Blk.new w #[.slice none 0 0] 25).alloc (.cells #[.int .i64 0] 33)).alloc (.cells #[.pointer (some ⟨p,0,none⟩)] 164)
 have be := (Blk.new (w.alloc (.cells #[.slice none 0 0] 25)) #[.int .i64 0] 33).alloc (.cells #[.pointer (some ⟨p,0,none⟩)] 164)
 have br := Blk.new ((w.alloc (.cells #[.slice none 0 0] 25)).alloc (.cells #[.int .i64 0] 33)) #[.pointer (some ⟨p,0,none⟩)] 164
 simp only [World.size_alloc] at be br
 have HN := Lib.hid (rnumber_any p k 255 v B _ (hc.keeps k0) (by decide))
 have HB := Lib.hid (fun W (h : Cur W p v B (numK B k 255)) => wreadByte_any p _ v B W #[.pointer (some ⟨p,0,none⟩)] #[] _ _ (byte_any p (numK B k 255) v B W h))
 have hwb : wrap64 (byteX B (numK B k 255)) = byteX B (numK B k 255) := by have := byteX_bound hc.byte (numK B k 255);exact IntWalk.wrap64_in _ ⟨by omega,by omega⟩
 clear hc
 have hX' : (0 : Int) < ((numX B k 255 : Nat) : Int) := by omega
 have hXB : numX B k 255 ≤ 255 := by
  unfold numX
  split
  ·rename_i h
   unfold numE at h
   split at h
   ·cases h
   ·rename_i hq;unfold numE at hE;omega
  ·omega
 generalize byteX B (numK B k 255) = BX at *
 generalize byteE B (numK B k 255) = BE at *
 generalize byteK B (numK B k 255) = BK at *
 subst hb
 have hw' : decide (BX < 2) = false := decide_eq_false (by omega)
 generalize numX B k 255 = X at *
 generalize numK B k 255 = K at *
 generalize numE B k 255 = E at *
 subst hE
 go_enter_defers Tryz.func88,Tryz.ntmps88
 go_wp2_with (first | (go_at_call 124;(refine HN.out.mono ?_;rintro e w1 ⟨he,-,cur1,k1⟩;obtain rfl := he rfl;replace bo := bo.keeps k1 (by simp;omega);replace be := be.keeps k1 (by simp;omega);replace br := br.keeps k1 (by simp;omega);obtain ⟨br0,-⟩ := br.one;have lbr := br.lt)) | (go_at_call 125;(refine (wis_yes (by simp [*]) 12 _).mono ?_;rintro e w2 ⟨rfl,rfl⟩)))
 have bx := Blk.new w1 #[.func (.func 126) #[.agg #[.pointer (some ⟨p,0,none⟩)]] #[],.func (.func 127) #[.agg #[.pointer (some ⟨p,0,none⟩)]] #[]] 166
 have kx := (Keeps.refl w1 []).alloc (.cells #[.func (.func 126) #[.agg #[.pointer (some ⟨p,0,none⟩)]] #[],.func (.func 127) #[.agg #[.pointer (some ⟨p,0,none⟩)]] #[]] 166)
 have HB1 := HB.out _ (cur1.keeps kx)
 replace bo := bo.keeps kx (by simp)
 replace be := be.keeps kx (by simp)
 replace k0 : Keeps w _ [p] := (((k0.mono (S' := [p]) (by simp)).trans k1 (fun j hj _ => hj)).then kx)
 clear cur1 br br0 kx k1 he HB HN
 generalize (w1.alloc (.cells #[.func (.func 126) #[.agg #[.pointer (some ⟨p,0,none⟩)]] #[],.func (.func 127) #[.agg #[.pointer (some ⟨p,0,none⟩)]] #[]] 166)) = W1 at *
 generalize w1.heap.size = G at *
 refine HB1.mono ?_
 rintro e w2 ⟨he,-,cur,k2⟩
 obtain rfl := he rfl
 replace bo := bo.keeps k2 (by simp;omega)
 replace be := be.keeps k2 (by simp;omega)
 replace bx := bx.keeps k2 (by simp;omega)
 replace k0 := k0.trans k2 (fun j hj _ => hj)
 go_wp2_with (go_at_call 125;(refine (wis_no (by simp [*]) 12 _).mono ?_;rintro e w3 ⟨rfl,rfl⟩))
 obtain ⟨e0,e1⟩ := be.one
 obtain ⟨o0,o1⟩ := bo.one
 refine leaves_cons (f := 107) (args := #[.pointer (some ⟨w.heap.size + 1,0,none⟩),.func (.func 123) #[] #[.pointer (some ⟨w.heap.size,0,none⟩)]]) (by simp) (by simp [go_sem]) ?_
 refine (wcaught_dec _ _ (12) _ _ _ _ [] _ be bo (by omega)).mono ?_
 rintro e u' w'' ⟨rfl,rfl,rfl⟩
 refine ⟨.tuple #[.slice none 0 0,.int .i64 (12)],by simp only [results,Tryz.results88];go_simp,?_⟩
 refine ⟨_,rfl,.nil,.nil,?_,?_⟩
 ·exact cur.keepsS (S := [w.heap.size,w.heap.size + 1]) (by repeat (first | exact Keeps.refl _ _ | refine Keeps.setCell' (.inr (by simp)) ?_)) (by simp;omega) (fun ad n c he h0 hm => by have := HOLD.out ad n c he h0;simp at hm;omega)
 ·exact Keeps.setCell' (.inl (by dsimp only;omega)) (Keeps.setCell' (.inl (by dsimp only;omega)) k0)

set_option maxHeartbeats 4000000 in
theorem decode_halv (p k : Nat) (v : Value) (B : List Int) (w : World) (hc : Cur w p v B k) (hE : numE B k 255 = 0) (hX : 0 < numX B k 255) (hb : byteE B (numK B k 255) = 0) (hw : byteX B (numK B k 255) = 0) (hh : halvE B (byteK B (numK B k 255)) (numX B k 255) ≠ 0) :
  Calls Tryz.prog 88 #[.pointer (some ⟨p,0,none⟩)] w (DecEnd w p v B [] (halvE B (byteK B (numK B k 255)) (numX B k 255)) (bytesK B (byteK B (numK B k 255)) (((numX B k 255 + 1) / 2 : Nat) : Int))) := by
 have hmf : ∀ (fn : Fn) (first cap : Array Value) (w : World),(Instr.makeFunc fn first cap).run Tryz.prog w = .ok (.func fn first cap) w := fun _ _ _ _ => rfl
 have hlp := hc.old.1
 have HOLD := Lib.hid hc.old.2
 have k0 : Keeps w (((w.alloc (.cells #[.slice none 0 0] 25)).alloc (.cells #[.int .i64 0] 33)).alloc (.cells #[.pointer (some ⟨p,0,none⟩)] 164)) [] := (((Keeps.refl w []).alloc _).alloc _).alloc _
 have bo := ((Blk.new w #[.slice none 0 0] 25).alloc (.cells #[.int .i64 0] 33)).alloc (.cells #[.pointer (some ⟨p,0,none⟩)] 164)
 have be := (Blk.new (w.alloc (.cells #[.slice none 0 0] 25)) #[.int .i64 0] 33).alloc (.cells #[.pointer (some ⟨p,0,none⟩)] 164)
 have br := Blk.new ((w.alloc (.cells #[.slice none 0 0] 25)).alloc (.cells #[.int .i64 0] 33)) #[.pointer (some ⟨p,0,none⟩)] 164
 simp only [World.size_alloc] at be br
 have HN := Lib.hid (rnumber_any p k 255 v B _ (hc.keeps k0) (by decide))
 have HB := Lib.hid (fun W (h : Cur W p v B (numK B k 255)) => wreadByte_any p _ v B W #[.pointer (some ⟨p,0,none⟩)] #[] _ _ (byte_any p (numK B k 255) v B W h))
 have hX' : (0 : Int) < ((numX B k 255 : Nat) : Int) := by omega
 have hXB : numX B k 255 ≤ 255 := by
  unfold numX
  split
  ·rename_i h
   unfold numE at h
   split at h
   ·cases h
   ·rename_i hq;unfold numE at hE;omega
  ·omega
 have HH := Lib.hid (fun W (h : Cur W p v B (byteK B (numK B k 255))) => rhalves_any p _ (numX B k 255) v B W h hX (by have := hXB;omega))
 clear hc
 generalize hbx : byteX B (numK B k 255) = BX at *
 generalize byteE B (numK B k 255) = BE at *
 generalize byteK B (numK B k 255) = BK at *
 subst hb hw
 clear hbx
 generalize hgx : numX B k 255 = X at *
 generalize numK B k 255 = K at *
 generalize numE B k 255 = E at *
 subst hE
 clear hgx
 go_enter_defers Tryz.func88,Tryz.ntmps88
 go_wp2_with (first | (go_at_call 124;(refine HN.out.mono ?_;rintro e w1 ⟨he,-,cur1,k1⟩;obtain rfl := he rfl;replace bo := bo.keeps k1 (by simp;omega);replace be := be.keeps k1 (by simp;omega);replace br := br.keeps k1 (by simp;omega);obtain ⟨br0,-⟩ := br.one;have lbr := br.lt)) | (go_at_call 125;(refine (wis_yes (by simp [*]) 12 _).mono ?_;rintro e w2 ⟨rfl,rfl⟩)))
 have bx := Blk.new w1 #[.func (.func 126) #[.agg #[.pointer (some ⟨p,0,none⟩)]] #[],.func (.func 127) #[.agg #[.pointer (some ⟨p,0,none⟩)]] #[]] 166
 have kx := (Keeps.refl w1 []).alloc (.cells #[.func (.func 126) #[.agg #[.pointer (some ⟨p,0,none⟩)]] #[],.func (.func 127) #[.agg #[.pointer (some ⟨p,0,none⟩)]] #[]] 166)
 have HB1 := HB.out _ (cur1.keeps kx)
 replace bo := bo.keeps kx (by simp)
 replace be := be.keeps kx (by simp)
 replace k0 : Keeps w _ [p] := (((k0.mono (S' := [p]) (by simp)).trans k1 (fun j hj _ => hj)).then kx)
 clear cur1 br br0 kx k1 he HB HN
 generalize (w1.alloc (.cells #[.func (.func 126) #[.agg #[.pointer (some ⟨p,0,none⟩)]] #[],.func (.func 127) #[.agg #[.pointer (some ⟨p,0,none⟩)]] #[]] 166)) = W1 at *
 generalize w1.heap.size = G at *
 refine HB1.mono ?_
 rintro e w2 ⟨he,-,cur,k2⟩
 obtain rfl := he rfl
 replace bo := bo.keeps k2 (by simp;omega)
 replace be := be.keeps k2 (by simp;omega)
 replace bx := bx.keeps k2 (by simp;omega)
 replace k0 := k0.trans k2 (fun j hj _ => hj)
 have HH1 := HH.out _ cur
 obtain ⟨bx0,-⟩ := (⟨bx.cell 0,bx.frozen 0⟩ : _ ∧ _)
 simp only [List.getElem?_toArray,List.getElem?_cons_zero] at bx0
 go_wp2_with (go_at_call 125;(refine (wis_yes (by simp) 12 _).mono ?_;rintro e w3 ⟨rfl,rfl⟩))
 refine HH1.mono ?_
 rintro e w4 ⟨-,he,cur4,k4⟩
 obtain rfl := he hh
 replace bo := bo.keeps k4 (by simp;omega)
 replace be := be.keeps k4 (by simp;omega)
 replace k0 := k0.trans k4 (fun j hj _ => hj)
 replace cur := cur4
 generalize halvE B BK X = HE at *
 obtain ⟨e0,e1⟩ := be.one
 obtain ⟨o0,o1⟩ := bo.one
 refine leaves_cons (f := 107) (args := #[.pointer (some ⟨w.heap.size + 1,0,none⟩),.func (.func 123) #[] #[.pointer (some ⟨w.heap.size,0,none⟩)]]) (by simp) (by simp [go_sem]) ?_
 refine (wcaught_dec _ _ (HE) _ _ _ _ [] _ be bo (by omega)).mono ?_
 rintro e u' w'' ⟨rfl,rfl,rfl⟩
 refine ⟨.tuple #[.slice none 0 0,.int .i64 (HE)],by simp only [results,Tryz.results88];go_simp,?_⟩
 refine ⟨_,rfl,.nil,.nil,?_,?_⟩
 ·exact cur.keepsS (S := [w.heap.size,w.heap.size + 1]) (by repeat (first | exact Keeps.refl _ _ | refine Keeps.setCell' (.inr (by simp)) ?_)) (by simp;omega) (fun ad n c he h0 hm => by have := HOLD.out ad n c he h0;simp at hm;omega)
 ·exact Keeps.setCell' (.inl (by dsimp only;omega)) (Keeps.setCell' (.inl (by dsimp only;omega)) k0)

set_option maxHeartbeats 4000000 in
theorem decode_tno (p k : Nat) (v : Value) (B : List Int) (w : World) (hc : Cur w p v B k) (hE : numE B k 255 = 0) (hX : 0 < numX B k 255) (hb : byteE B (numK B k 255) = 0) (hw : byteX B (numK B k 255) = 0) (hh : halvE B (byteK B (numK B k 255)) (numX B k 255) = 0) (ht : okW (halvX B (byteK B (numK B k 255)) (numX B k 255)) = false) :
  Calls Tryz.prog 88 #[.pointer (some ⟨p,0,none⟩)] w (DecEnd w p v B [] 12 (bytesK B (byteK B (numK B k 255)) (((numX B k 255 + 1) / 2 : Nat) : Int))) := by
 have hmf : ∀ (fn : Fn) (first cap : Array Value) (w : World),(Instr.makeFunc fn first cap).run Tryz.prog w = .ok (.func fn first cap) w := fun _ _ _ _ => rfl
 have hlp := hc.old.1
 have HOLD := Lib.hid hc.old.2
 have k0 : Keeps w (((w.alloc (.cells #[.slice none 0 0] 25)).alloc (.cells #[.int .i64 0] 33)).alloc (.cells #[.pointer (some ⟨p,0,none⟩)] 164)) [] := (((Keeps.refl w []).alloc _).alloc _).alloc _
 have bo := ((Blk.new w #[.slice none 0 0] 25).alloc (.cells #[.int .i64 0] 33)).alloc (.cells #[.pointer (some ⟨p,0,none⟩)] 164)
 have be := (Blk.new (w.alloc (.cells #[.slice none 0 0] 25)) #[.int .i64 0] 33).alloc (.cells #[.pointer (some ⟨p,0,none⟩)] 164)
 have br := Blk.new ((w.alloc (.cells #[.slice none 0 0] 25)).alloc (.cells #[.int .i64 0] 33)) #[.pointer (some ⟨p,0,none⟩)] 164
 simp only [World.size_alloc] at be br
 have HN := Lib.hid (rnumber_any p k 255 v B _ (hc.keeps k0) (by decide))
 have HB := Lib.hid (fun W (h : Cur W p v B (numK B k 255)) => wreadByte_any p _ v B W #[.pointer (some ⟨p,0,none⟩)] #[] _ _ (byte_any p (numK B k 255) v B W h))
 have hX' : (0 : Int) < ((numX B k 255 : Nat) : Int) := by omega
 have hXB : numX B k 255 ≤ 255 := by
  unfold numX
  split
  ·rename_i h
   unfold numE at h
   split at h
   ·cases h
   ·rename_i hq;unfold numE at hE;omega
  ·omega
 have HH := Lib.hid (fun W (h : Cur W p v B (byteK B (numK B k 255))) => rhalves_any p _ (numX B k 255) v B W h hX (by have := hXB;omega))
 clear hc
 generalize hbx : byteX B (numK B k 255) = BX at *
 generalize byteE B (numK B k 255) = BE at *
 generalize byteK B (numK B k 255) = BK at *
 subst hb hw
 clear hbx
 generalize hgx : numX B k 255 = X at *
 generalize numK B k 255 = K at *
 generalize numE B k 255 = E at *
 subst hE
 clear hgx
 go_enter_defers Tryz.func88,Tryz.ntmps88
 go_wp2_with (first | (go_at_call 124;(refine HN.out.mono ?_;rintro e w1 ⟨he,-,cur1,k1⟩;obtain rfl := he rfl;replace bo := bo.keeps k1 (by simp;omega);replace be := be.keeps k1 (by simp;omega);replace br := br.keeps k1 (by simp;omega);obtain ⟨br0,-⟩ := br.one;have lbr := br.lt)) | (go_at_call 125;(refine (wis_yes (by simp [*]) 12 _).mono ?_;rintro e w2 ⟨rfl,rfl⟩)))
 have bx := Blk.new w1 #[.func (.func 126) #[.agg #[.pointer (some ⟨p,0,none⟩)]] #[],.func (.func 127) #[.agg #[.pointer (some ⟨p,0,none⟩)]] #[]] 166
 have kx := (Keeps.refl w1 []).alloc (.cells #[.func (.func 126) #[.agg #[.pointer (some ⟨p,0,none⟩)]] #[],.func (.func 127) #[.agg #[.pointer (some ⟨p,0,none⟩)]] #[]] 166)
 have HB1 := HB.out _ (cur1.keeps kx)
 replace bo := bo.keeps kx (by simp)
 replace be := be.keeps kx (by simp)
 replace k0 : Keeps w _ [p] := (((k0.mono (S' := [p]) (by simp)).trans k1 (fun j hj _ => hj)).then kx)
 clear cur1 br br0 kx k1 he HB HN
 generalize (w1.alloc (.cells #[.func (.func 126) #[.agg #[.pointer (some ⟨p,0,none⟩)]] #[],.func (.func 127) #[.agg #[.pointer (some ⟨p,0,none⟩)]] #[]] 166)) = W1 at *
 generalize w1.heap.size = G at *
 refine HB1.mono ?_
 rintro e w2 ⟨he,-,cur,k2⟩
 obtain rfl := he rfl
 replace bo := bo.keeps k2 (by simp;omega)
 replace be := be.keeps k2 (by simp;omega)
 replace bx := bx.keeps k2 (by simp;omega)
 replace k0 := k0.trans k2 (fun j hj _ => hj)
 have HH1 := HH.out _ cur
 obtain ⟨bx0,-⟩ := (⟨bx.cell 0,bx.frozen 0⟩ : _ ∧ _)
 simp only [List.getElem?_toArray,List.getElem?_cons_zero] at bx0
 go_wp2_with (go_at_call 125;(refine (wis_yes (by simp) 12 _).mono ?_;rintro e w3 ⟨rfl,rfl⟩))
 refine HH1.mono ?_
 rintro e w4 ⟨he,-,cur4,k4⟩
 obtain ⟨r4,rfl,rd4,-⟩ := he hh
 obtain ⟨a4,n4,c4,rfl,-,-⟩ := rd4.form
 replace bo := bo.keeps k4 (by simp;omega)
 replace be := be.keeps k4 (by simp;omega)
 replace k0 := k0.trans k4 (fun j hj _ => hj)
 replace cur := cur4
 have HLEN : (halvX B BK X).length ≤ 1000000 := by unfold halvX;simp;omega
 have HT := wtree_any _ _ w4 rd4 HLEN
 generalize bytesK B BK (((X + 1) / 2 : Nat) : Int) = K4 at *
 generalize halvX B BK X = L at *
 clear HH1 rd4 cur4
 go_wp2_with fail
 refine HT.mono ?_
 rintro e w5 ⟨k5,-,he⟩
 obtain rfl := he ht
 replace bo := bo.keeps k5 (by simp)
 replace be := be.keeps k5 (by simp)
 replace k0 := k0.then k5
 replace cur := cur.keeps k5
 obtain ⟨e0,e1⟩ := be.one
 obtain ⟨o0,o1⟩ := bo.one
 refine leaves_cons (f := 107) (args := #[.pointer (some ⟨w.heap.size + 1,0,none⟩),.func (.func 123) #[] #[.pointer (some ⟨w.heap.size,0,none⟩)]]) (by simp) (by simp [go_sem]) ?_
 refine (wcaught_dec _ _ (12) _ _ _ _ [] _ be bo (by omega)).mono ?_
 rintro e u' w'' ⟨rfl,rfl,rfl⟩
 refine ⟨.tuple #[.slice none 0 0,.int .i64 (12)],by simp only [results,Tryz.results88];go_simp,?_⟩
 refine ⟨_,rfl,.nil,.nil,?_,?_⟩
 ·exact cur.keepsS (S := [w.heap.size,w.heap.size + 1]) (by repeat (first | exact Keeps.refl _ _ | refine Keeps.setCell' (.inr (by simp)) ?_)) (by simp;omega) (fun ad n c he h0 hm => by have := HOLD.out ad n c he h0;simp at hm;omega)
 ·exact Keeps.setCell' (.inl (by dsimp only;omega)) (Keeps.setCell' (.inl (by dsimp only;omega)) k0)

set_option maxHeartbeats 4000000 in
theorem decode_yes (p k : Nat) (v : Value) (B : List Int) (w : World) (hc : Cur w p v B k) (hE : numE B k 255 = 0) (hX : 0 < numX B k 255) (hb : byteE B (numK B k 255) = 0) (hw : byteX B (numK B k 255) = 0) (hh : halvE B (byteK B (numK B k 255)) (numX B k 255) = 0) (ht : okW (halvX B (byteK B (numK B k 255)) (numX B k 255)) = true) :
  Calls Tryz.prog 88 #[.pointer (some ⟨p,0,none⟩)] w (DecEnd w p v B (tOf (halvX B (byteK B (numK B k 255)) (numX B k 255))) 0 (bytesK B (byteK B (numK B k 255)) (((numX B k 255 + 1) / 2 : Nat) : Int))) := by
 have hmf : ∀ (fn : Fn) (first cap : Array Value) (w : World),(Instr.makeFunc fn first cap).run Tryz.prog w = .ok (.func fn first cap) w := fun _ _ _ _ => rfl
 have hlp := hc.old.1
 have HOLD := Lib.hid hc.old.2
 have k0 : Keeps w (((w.alloc (.cells #[.slice none 0 0] 25)).alloc (.cells #[.int .i64 0] 33)).alloc (.cells #[.pointer (some ⟨p,0,none⟩)] 164)) [] := (((Keeps.refl w []).alloc _).alloc _).alloc _
 have bo := ((Blk.new w #[.slice none 0 0] 25).alloc (.cells #[.int .i64 0] 33)).alloc (.cells #[.pointer (some ⟨p,0,none⟩)] 164)
 have be := (Blk.new (w.alloc (.cells #[.slice none 0 0] 25)) #[.int .i64 0] 33).alloc (.cells #[.pointer (some ⟨p,0,none⟩)] 164)
 have br := Blk.new ((w.alloc (.cells #[.slice none 0 0] 25)).alloc (.cells #[.int .i64 0] 33)) #[.pointer (some ⟨p,0,none⟩)] 164
 simp only [World.size_alloc] at be br
 have HN := Lib.hid (rnumber_any p k 255 v B _ (hc.keeps k0) (by decide))
 have HB := Lib.hid (fun W (h : Cur W p v B (numK B k 255)) => wreadByte_any p _ v B W #[.pointer (some ⟨p,0,none⟩)] #[] _ _ (byte_any p (numK B k 255) v B W h))
 have hX' : (0 : Int) < ((numX B k 255 : Nat) : Int) := by omega
 have hXB : numX B k 255 ≤ 255 := by
  unfold numX
  split
  ·rename_i h
   unfold numE at h
   split at h
   ·cases h
   ·rename_i hq;unfold numE at hE;omega
  ·omega
 have HH := Lib.hid (fun W (h : Cur W p v B (byteK B (numK B k 255))) => rhalves_any p _ (numX B k 255) v B W h hX (by have := hXB;omega))
 clear hc
 generalize hbx : byteX B (numK B k 255) = BX at *
 generalize byteE B (numK B k 255) = BE at *
 generalize byteK B (numK B k 255) = BK at *
 subst hb hw
 clear hbx
 generalize hgx : numX B k 255 = X at *
 generalize numK B k 255 = K at *
 generalize numE B k 255 = E at *
 subst hE
 clear hgx
 go_enter_defers Tryz.func88,Tryz.ntmps88
 go_wp2_with (first | (go_at_call 124;(refine HN.out.mono ?_;rintro e w1 ⟨he,-,cur1,k1⟩;obtain rfl := he rfl;replace bo := bo.keeps k1 (by simp;omega);replace be := be.keeps k1 (by simp;omega);replace br := br.keeps k1 (by simp;omega);obtain ⟨br0,-⟩ := br.one;have lbr := br.lt)) | (go_at_call 125;(refine (wis_yes (by simp [*]) 12 _).mono ?_;rintro e w2 ⟨rfl,rfl⟩)))
 have bx := Blk.new w1 #[.func (.func 126) #[.agg #[.pointer (some ⟨p,0,none⟩)]] #[],.func (.func 127) #[.agg #[.pointer (some ⟨p,0,none⟩)]] #[]] 166
 have kx := (Keeps.refl w1 []).alloc (.cells #[.func (.func 126) #[.agg #[.pointer (some ⟨p,0,none⟩)]] #[],.func (.func 127) #[.agg #[.pointer (some ⟨p,0,none⟩)]] #[]] 166)
 have HB1 := HB.out _ (cur1.keeps kx)
 replace bo := bo.keeps kx (by simp)
 replace be := be.keeps kx (by simp)
 replace k0 : Keeps w _ [p] := (((k0.mono (S' := [p]) (by simp)).trans k1 (fun j hj _ => hj)).then kx)
 clear cur1 br br0 kx k1 he HB HN
 generalize (w1.alloc (.cells #[.func (.func 126) #[.agg #[.pointer (some ⟨p,0,none⟩)]] #[],.func (.func 127) #[.agg #[.pointer (some ⟨p,0,none⟩)]] #[]] 166)) = W1 at *
 generalize w1.heap.size = G at *
 refine HB1.mono ?_
 rintro e w2 ⟨he,-,cur,k2⟩
 obtain rfl := he rfl
 replace bo := bo.keeps k2 (by simp;omega)
 replace be := be.keeps k2 (by simp;omega)
 replace bx := bx.keeps k2 (by simp;omega)
 replace k0 := k0.trans k2 (fun j hj _ => hj)
 have HH1 := HH.out _ cur
 obtain ⟨bx0,-⟩ := (⟨bx.cell 0,bx.frozen 0⟩ : _ ∧ _)
 simp only [List.getElem?_toArray,List.getElem?_cons_zero] at bx0
 go_wp2_with (go_at_call 125;(refine (wis_yes (by simp) 12 _).mono ?_;rintro e w3 ⟨rfl,rfl⟩))
 refine HH1.mono ?_
 rintro e w4 ⟨he,-,cur4,k4⟩
 obtain ⟨r4,rfl,rd4,-⟩ := he hh
 obtain ⟨a4,n4,c4,rfl,-,-⟩ := rd4.form
 replace bo := bo.keeps k4 (by simp;omega)
 replace be := be.keeps k4 (by simp;omega)
 replace k0 := k0.trans k4 (fun j hj _ => hj)
 replace cur := cur4
 have HLEN : (halvX B BK X).length ≤ 1000000 := by unfold halvX;simp;omega
 have HT := wtree_any _ _ w4 rd4 HLEN
 generalize bytesK B BK (((X + 1) / 2 : Nat) : Int) = K4 at *
 generalize halvX B BK X = L at *
 clear HH1 rd4 cur4
 go_wp2_with fail
 refine HT.mono ?_
 rintro e w5 ⟨k5,he,-⟩
 obtain ⟨v5,rfl,r5,f5⟩ := he ht
 have hs4 := k0.size
 have hlbb : w.heap.size + 2 ≤ w4.heap.size := by have := be.lt;omega
 replace bo := bo.keeps k5 (by simp)
 replace be := be.keeps k5 (by simp)
 replace k0 := k0.then k5
 replace cur := cur.keeps k5
 have hlb4 : Hid (w.heap.size + 2 ≤ w4.heap.size) := hlbb
 obtain ⟨a5,n5,c5,rfl,-,-⟩ := r5.form
 obtain ⟨e0,e1⟩ := be.one
 obtain ⟨o0,o1⟩ := bo.one
 have R1 := Lib.hid r5
 have F1 := Lib.hid f5
 have CU := Lib.hid cur
 have hlb := hlb4.out
 generalize vW L = V at *
 generalize tOf L = TO at *
 clear r5 f5 cur HT ht
 go_wp2_with fail
 refine leaves_cons (f := 107) (args := #[.pointer (some ⟨w.heap.size + 1,0,none⟩),.func (.func 123) #[] #[.pointer (some ⟨w.heap.size,0,none⟩)]]) (by simp) (by simp [go_sem]) ?_
 refine (wcaught_idle _ _ _).mono ?_
 rintro e u' w'' ⟨rfl,rfl,rfl⟩
 refine ⟨.tuple #[.slice a5 n5 c5,.int .i64 0],by simp only [results,Tryz.results88];go_simp,?_⟩
 refine ⟨_,rfl,R1.out.keepsS (S := [w.heap.size,w.heap.size + 1]) (by repeat (first | exact Keeps.refl _ _ | refine Keeps.setCell' (.inr (by simp)) ?_)) (fun ad m c he _ hm => ?_),F1.out.mono (by omega),?_,by repeat (first | exact k0 | refine Keeps.setCell' (.inl (by dsimp only;omega)) ?_)⟩
 ·have := F1.out ad m c he
  simp at hm
  omega
 ·exact CU.out.keepsS (S := [w.heap.size,w.heap.size + 1]) (by repeat (first | exact Keeps.refl _ _ | refine Keeps.setCell' (.inr (by simp)) ?_)) (by simp;omega) (fun ad n c he h0 hm => by have := HOLD.out ad n c he h0;simp at hm;omega)


end Go.Proofs.YtcmagccfagijlaaGreat
