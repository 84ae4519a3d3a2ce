/-
  Walks over package weights: Decode for format 1. (Printed by mkWg.py.)
  Walks over package weights: the deferred function of further callers, FromTree.
  Walk over the reference of package canon: Right.
  Walks over the references of packages canon and weights: Right, Longest, Of.
  Walks over package weights: ToTree, Implied.
  Walks over the reference of package weights: last, Last.
  Walks over the reference of package weights: Tree.
  Walks over the reference of tree descriptions: halves, coded, Get. (Printed by mkWr.py.)
  Walks over package weights: ways, described, EncodePacked.
  Walks over the reference of package weights: Varint, Halves.
  The law's helpers same, no, gets.
  What a description of a tree says, in one word: weights.Decode and the reference's Get; Decode without a cursor. (Printed by mkWu.py.)
  A description in format 1, in plain words: the counts, the table, the bytes; and that it is read back, whatever follows; so is one in format 0. (No walk is done here.)
-/
import Derived.Test.YtophgpnnjphnmaaGreatQ30
import Derived.Test.YtophgpnnjphnmaaGreatQ29
import Derived.Test.YtophgpnnjphnmaaGreatQ6
import Derived.Test.YtophgpnnjphnmaaGreatQ28
import Derived.Deep.QuietTactic
import Derived.BigQuiet
import Derived.Test.YtophgpnnjphnmaaGreatQ2
import Derived.Test.YtophgpnnjphnmaaGreatQ27
import Derived.Test.YtophgpnnjphnmaaGreatQ11
import Derived.Test.YtophgpnnjphnmaaGreatQ8
import Derived.Laws.EntriesVeiled
import Derived.Test.YtophgpnnjphnmaaGreatQ23
import Derived.Test.YtophgpnnjphnmaaGreatQ26
namespace Go.Proofs.YtophgpnnjphnmaaGreat
section
set_option linter.unusedVariables false
set_option linter.unusedSimpArgs false
set_option linter.unusedSectionVars false
open Go.RowKit

set_option maxRecDepth 100000 in
set_option maxHeartbeats 4000000 in
theorem decode_cod (p k : Nat) (v : Value) (B : List Int) (w : World) (hc : Cur w p v B k) (hE : numE B k 255 = 0) (hX : 0 < numX B k 255) (hb : byteE B (numK B k 255) = 0) (hw : byteX B (numK B k 255) = 1) {er : Int} (hh : (codedR B (byteK B (numK B k 255)) (numX B k 255)).1 = .error er) :
    Calls Tryz.prog 29 #[.pointer (some ⟨p, 0, none⟩)] w (DecEnd w p v B [] er (codedR B (byteK B (numK B k 255)) (numX B k 255)).2) := by
  have hmf : ∀ (fn : Fn) (first cap : Array Value) (w : World), (Instr.makeFunc fn first cap).run Tryz.prog w = .ok (.func fn first cap) w := fun _ _ _ _ => rfl
  have hlp := hc.old.1
  have HOLD := Lib.hid hc.old.2
  have k0 : Keeps w (((w.alloc (.cells #[.slice none 0 0] 22)).alloc (.cells #[.int .i64 0] 24)).alloc (.cells #[.pointer (some ⟨p, 0, none⟩)] 73)) [] := (((Keeps.refl w []).alloc _).alloc _).alloc _
  have bo := ((Blk.new w #[.slice none 0 0] 22).alloc (.cells #[.int .i64 0] 24)).alloc (.cells #[.pointer (some ⟨p, 0, none⟩)] 73)
  have be := (Blk.new (w.alloc (.cells #[.slice none 0 0] 22)) #[.int .i64 0] 24).alloc (.cells #[.pointer (some ⟨p, 0, none⟩)] 73)
  have br := Blk.new ((w.alloc (.cells #[.slice none 0 0] 22)).alloc (.cells #[.int .i64 0] 24)) #[.pointer (some ⟨p, 0, none⟩)] 73
  simp only [World.size_alloc] at be br
  have HN := Lib.hid (rnumber_any p k 255 v B _ (hc.keeps k0) (by decide))
  have HB := Lib.hid (fun W (h : Cur W p v B (numK B k 255)) => wreadByte_any p _ v B W #[.pointer (some ⟨p, 0, none⟩)] #[] _ _ (byte_any p (numK B k 255) v B W h))
  have hX' : (0 : Int) < ((numX B k 255 : Nat) : Int) := by omega
  have hXB : numX B k 255 ≤ 255 := by
    unfold numX
    split
    · rename_i h
      unfold numE at h
      split at h
      · cases h
      · rename_i hq; unfold numE at hE; omega
    · omega
  have HH := Lib.hid (fun W (h : Cur W p v B (byteK B (numK B k 255))) => rflow_any p _ (numX B k 255) v B W h (by have := hXB; omega))
  clear hc
  generalize hbx : byteX B (numK B k 255) = BX at *
  generalize byteE B (numK B k 255) = BE at *
  generalize byteK B (numK B k 255) = BK at *
  subst hb hw
  clear hbx
  generalize codedR B BK (numX B k 255) = CR at *
  generalize hgx : numX B k 255 = X at *
  generalize numK B k 255 = K at *
  generalize numE B k 255 = E at *
  subst hE
  clear hgx
  go_enter_defers Tryz.func29, Tryz.ntmps29
  go_wp2_with (first | (go_at_call 53; go_loud (refine HN.out.mono ?_; rintro e w1 ⟨he, -, cur1, k1⟩; obtain rfl := he rfl; replace bo := bo.keeps k1 (by simp; omega); replace be := be.keeps k1 (by simp; omega); replace br := br.keeps k1 (by simp; omega); obtain ⟨br0, -⟩ := br.one; have lbr := br.lt)) | (go_at_call 54; go_loud (refine (wis_yes (by simp [*]) 12 _).mono ?_; rintro e w2 ⟨rfl, rfl⟩)))
  have bx := Blk.new w1 #[.func (.func 55) #[.agg #[.pointer (some ⟨p, 0, none⟩)]] #[], .func (.func 56) #[.agg #[.pointer (some ⟨p, 0, none⟩)]] #[]] 76
  have kx := (Keeps.refl w1 []).alloc (.cells #[.func (.func 55) #[.agg #[.pointer (some ⟨p, 0, none⟩)]] #[], .func (.func 56) #[.agg #[.pointer (some ⟨p, 0, none⟩)]] #[]] 76)
  have HB1 := HB.out _ (cur1.keeps kx)
  replace bo := bo.keeps kx (by simp)
  replace be := be.keeps kx (by simp)
  replace k0 : Keeps w _ [p] := (((k0.mono (S' := [p]) (by simp)).trans k1 (fun j hj _ => hj)).then kx)
  clear cur1 br br0 kx k1 he HB HN
  generalize (w1.alloc (.cells #[.func (.func 55) #[.agg #[.pointer (some ⟨p, 0, none⟩)]] #[], .func (.func 56) #[.agg #[.pointer (some ⟨p, 0, none⟩)]] #[]] 76)) = W1 at *
  generalize w1.heap.size = G at *
  refine HB1.mono ?_
  rintro e w2 ⟨he, -, cur, k2⟩
  obtain rfl := he rfl
  replace bo := bo.keeps k2 (by simp; omega)
  replace be := be.keeps k2 (by simp; omega)
  replace bx := bx.keeps k2 (by simp; omega)
  replace k0 := k0.trans k2 (fun j hj _ => hj)
  have HH1 := HH.out _ cur
  obtain ⟨bx0, -⟩ := (⟨bx.cell 1, bx.frozen 1⟩ : _ ∧ _)
  simp only [List.getElem?_toArray, List.getElem?_cons_succ, List.getElem?_cons_zero] at bx0
  go_wp2_with (go_at_call 54; go_loud (refine (wis_yes (by simp) 12 _).mono ?_; rintro e w3 ⟨rfl, rfl⟩))
  refine HH1.mono ?_
  rintro e w4 ⟨k4, cur4, hcod⟩
  replace bo := bo.keeps k4 (by simp; omega)
  replace be := be.keeps k4 (by simp; omega)
  replace k0 := k0.trans k4 (fun j hj _ => hj)
  replace cur := cur4
  rw [hh] at hcod
  obtain ⟨her, rfl⟩ := hcod
  obtain ⟨e0, e1⟩ := be.one
  obtain ⟨o0, o1⟩ := bo.one
  refine leaves_cons (f := 35) (args := #[.pointer (some ⟨w.heap.size + 1, 0, none⟩), .func (.func 52) #[] #[.pointer (some ⟨w.heap.size, 0, none⟩)]]) (by simp) (by simp [go_sem]) ?_
  refine (wcaught_dec _ _ (er) _ _ _ _ [] _ be bo (by omega)).mono ?_
  rintro e u' w'' ⟨rfl, rfl, rfl⟩
  refine ⟨.tuple #[.slice none 0 0, .int .i64 (er)], by simp only [results, Tryz.results29]; go_simp, ?_⟩
  refine ⟨_, rfl, .nil, .nil, ?_, ?_⟩
  · exact cur.keepsS (S := [w.heap.size, w.heap.size + 1]) (by repeat (first | exact Keeps.refl _ _ | refine Keeps.setCell' (.inr (by simp)) ?_)) (by simp; omega) (fun ad n c he h0 hm => by have := HOLD.out ad n c he h0; simp at hm; omega)
  · exact Keeps.setCell' (.inl (by dsimp only; omega)) (Keeps.setCell' (.inl (by dsimp only; omega)) k0)

set_option maxRecDepth 100000 in
set_option maxHeartbeats 4000000 in
theorem decode_cno (p k : Nat) (v : Value) (B : List Int) (w : World) (hc : Cur w p v B k) (hE : numE B k 255 = 0) (hX : 0 < numX B k 255) (hb : byteE B (numK B k 255) = 0) (hw : byteX B (numK B k 255) = 1) {L : List Int} (hh : (codedR B (byteK B (numK B k 255)) (numX B k 255)).1 = .ok L) (hL : L.length ≤ 1000000) (ht : okW L = false) :
    Calls Tryz.prog 29 #[.pointer (some ⟨p, 0, none⟩)] w (DecEnd w p v B [] 12 (codedR B (byteK B (numK B k 255)) (numX B k 255)).2) := by
  have hmf : ∀ (fn : Fn) (first cap : Array Value) (w : World), (Instr.makeFunc fn first cap).run Tryz.prog w = .ok (.func fn first cap) w := fun _ _ _ _ => rfl
  have hlp := hc.old.1
  have HOLD := Lib.hid hc.old.2
  have k0 : Keeps w (((w.alloc (.cells #[.slice none 0 0] 22)).alloc (.cells #[.int .i64 0] 24)).alloc (.cells #[.pointer (some ⟨p, 0, none⟩)] 73)) [] := (((Keeps.refl w []).alloc _).alloc _).alloc _
  have bo := ((Blk.new w #[.slice none 0 0] 22).alloc (.cells #[.int .i64 0] 24)).alloc (.cells #[.pointer (some ⟨p, 0, none⟩)] 73)
  have be := (Blk.new (w.alloc (.cells #[.slice none 0 0] 22)) #[.int .i64 0] 24).alloc (.cells #[.pointer (some ⟨p, 0, none⟩)] 73)
  have br := Blk.new ((w.alloc (.cells #[.slice none 0 0] 22)).alloc (.cells #[.int .i64 0] 24)) #[.pointer (some ⟨p, 0, none⟩)] 73
  simp only [World.size_alloc] at be br
  have HN := Lib.hid (rnumber_any p k 255 v B _ (hc.keeps k0) (by decide))
  have HB := Lib.hid (fun W (h : Cur W p v B (numK B k 255)) => wreadByte_any p _ v B W #[.pointer (some ⟨p, 0, none⟩)] #[] _ _ (byte_any p (numK B k 255) v B W h))
  have hX' : (0 : Int) < ((numX B k 255 : Nat) : Int) := by omega
  have hXB : numX B k 255 ≤ 255 := by
    unfold numX
    split
    · rename_i h
      unfold numE at h
      split at h
      · cases h
      · rename_i hq; unfold numE at hE; omega
    · omega
  have HH := Lib.hid (fun W (h : Cur W p v B (byteK B (numK B k 255))) => rflow_any p _ (numX B k 255) v B W h (by have := hXB; omega))
  clear hc
  generalize hbx : byteX B (numK B k 255) = BX at *
  generalize byteE B (numK B k 255) = BE at *
  generalize byteK B (numK B k 255) = BK at *
  subst hb hw
  clear hbx
  generalize codedR B BK (numX B k 255) = CR at *
  generalize hgx : numX B k 255 = X at *
  generalize numK B k 255 = K at *
  generalize numE B k 255 = E at *
  subst hE
  clear hgx
  go_enter_defers Tryz.func29, Tryz.ntmps29
  go_wp2_with (first | (go_at_call 53; go_loud (refine HN.out.mono ?_; rintro e w1 ⟨he, -, cur1, k1⟩; obtain rfl := he rfl; replace bo := bo.keeps k1 (by simp; omega); replace be := be.keeps k1 (by simp; omega); replace br := br.keeps k1 (by simp; omega); obtain ⟨br0, -⟩ := br.one; have lbr := br.lt)) | (go_at_call 54; go_loud (refine (wis_yes (by simp [*]) 12 _).mono ?_; rintro e w2 ⟨rfl, rfl⟩)))
  have bx := Blk.new w1 #[.func (.func 55) #[.agg #[.pointer (some ⟨p, 0, none⟩)]] #[], .func (.func 56) #[.agg #[.pointer (some ⟨p, 0, none⟩)]] #[]] 76
  have kx := (Keeps.refl w1 []).alloc (.cells #[.func (.func 55) #[.agg #[.pointer (some ⟨p, 0, none⟩)]] #[], .func (.func 56) #[.agg #[.pointer (some ⟨p, 0, none⟩)]] #[]] 76)
  have HB1 := HB.out _ (cur1.keeps kx)
  replace bo := bo.keeps kx (by simp)
  replace be := be.keeps kx (by simp)
  replace k0 : Keeps w _ [p] := (((k0.mono (S' := [p]) (by simp)).trans k1 (fun j hj _ => hj)).then kx)
  clear cur1 br br0 kx k1 he HB HN
  generalize (w1.alloc (.cells #[.func (.func 55) #[.agg #[.pointer (some ⟨p, 0, none⟩)]] #[], .func (.func 56) #[.agg #[.pointer (some ⟨p, 0, none⟩)]] #[]] 76)) = W1 at *
  generalize w1.heap.size = G at *
  refine HB1.mono ?_
  rintro e w2 ⟨he, -, cur, k2⟩
  obtain rfl := he rfl
  replace bo := bo.keeps k2 (by simp; omega)
  replace be := be.keeps k2 (by simp; omega)
  replace bx := bx.keeps k2 (by simp; omega)
  replace k0 := k0.trans k2 (fun j hj _ => hj)
  have HH1 := HH.out _ cur
  obtain ⟨bx0, -⟩ := (⟨bx.cell 1, bx.frozen 1⟩ : _ ∧ _)
  simp only [List.getElem?_toArray, List.getElem?_cons_succ, List.getElem?_cons_zero] at bx0
  go_wp2_with (go_at_call 54; go_loud (refine (wis_yes (by simp) 12 _).mono ?_; rintro e w3 ⟨rfl, rfl⟩))
  refine HH1.mono ?_
  rintro e w4 ⟨k4, cur4, hcod⟩
  replace bo := bo.keeps k4 (by simp; omega)
  replace be := be.keeps k4 (by simp; omega)
  replace k0 := k0.trans k4 (fun j hj _ => hj)
  replace cur := cur4
  rw [hh] at hcod
  obtain ⟨r4, rfl, rd4, -⟩ := hcod
  obtain ⟨a4, n4, c4, rfl, -, -⟩ := rd4.form
  have HT := wtree_any _ _ w4 rd4 hL
  clear HH1 rd4 cur4
  go_wp2_with fail
  refine HT.mono ?_
  rintro e w5 ⟨k5, -, he⟩
  obtain rfl := he ht
  replace bo := bo.keeps k5 (by simp)
  replace be := be.keeps k5 (by simp)
  replace k0 := k0.then k5
  replace cur := cur.keeps k5
  obtain ⟨e0, e1⟩ := be.one
  obtain ⟨o0, o1⟩ := bo.one
  refine leaves_cons (f := 35) (args := #[.pointer (some ⟨w.heap.size + 1, 0, none⟩), .func (.func 52) #[] #[.pointer (some ⟨w.heap.size, 0, none⟩)]]) (by simp) (by simp [go_sem]) ?_
  refine (wcaught_dec _ _ (12) _ _ _ _ [] _ be bo (by omega)).mono ?_
  rintro e u' w'' ⟨rfl, rfl, rfl⟩
  refine ⟨.tuple #[.slice none 0 0, .int .i64 (12)], by simp only [results, Tryz.results29]; go_simp, ?_⟩
  refine ⟨_, rfl, .nil, .nil, ?_, ?_⟩
  · exact cur.keepsS (S := [w.heap.size, w.heap.size + 1]) (by repeat (first | exact Keeps.refl _ _ | refine Keeps.setCell' (.inr (by simp)) ?_)) (by simp; omega) (fun ad n c he h0 hm => by have := HOLD.out ad n c he h0; simp at hm; omega)
  · exact Keeps.setCell' (.inl (by dsimp only; omega)) (Keeps.setCell' (.inl (by dsimp only; omega)) k0)

set_option maxRecDepth 100000 in
set_option maxHeartbeats 4000000 in
theorem decode_cyes (p k : Nat) (v : Value) (B : List Int) (w : World) (hc : Cur w p v B k) (hE : numE B k 255 = 0) (hX : 0 < numX B k 255) (hb : byteE B (numK B k 255) = 0) (hw : byteX B (numK B k 255) = 1) {L : List Int} (hh : (codedR B (byteK B (numK B k 255)) (numX B k 255)).1 = .ok L) (hL : L.length ≤ 1000000) (ht : okW L = true) :
    Calls Tryz.prog 29 #[.pointer (some ⟨p, 0, none⟩)] w (DecEnd w p v B (tOf L) 0 (codedR B (byteK B (numK B k 255)) (numX B k 255)).2) := by
  have hmf : ∀ (fn : Fn) (first cap : Array Value) (w : World), (Instr.makeFunc fn first cap).run Tryz.prog w = .ok (.func fn first cap) w := fun _ _ _ _ => rfl
  have hlp := hc.old.1
  have HOLD := Lib.hid hc.old.2
  have k0 : Keeps w (((w.alloc (.cells #[.slice none 0 0] 22)).alloc (.cells #[.int .i64 0] 24)).alloc (.cells #[.pointer (some ⟨p, 0, none⟩)] 73)) [] := (((Keeps.refl w []).alloc _).alloc _).alloc _
  have bo := ((Blk.new w #[.slice none 0 0] 22).alloc (.cells #[.int .i64 0] 24)).alloc (.cells #[.pointer (some ⟨p, 0, none⟩)] 73)
  have be := (Blk.new (w.alloc (.cells #[.slice none 0 0] 22)) #[.int .i64 0] 24).alloc (.cells #[.pointer (some ⟨p, 0, none⟩)] 73)
  have br := Blk.new ((w.alloc (.cells #[.slice none 0 0] 22)).alloc (.cells #[.int .i64 0] 24)) #[.pointer (some ⟨p, 0, none⟩)] 73
  simp only [World.size_alloc] at be br
  have HN := Lib.hid (rnumber_any p k 255 v B _ (hc.keeps k0) (by decide))
  have HB := Lib.hid (fun W (h : Cur W p v B (numK B k 255)) => wreadByte_any p _ v B W #[.pointer (some ⟨p, 0, none⟩)] #[] _ _ (byte_any p (numK B k 255) v B W h))
  have hX' : (0 : Int) < ((numX B k 255 : Nat) : Int) := by omega
  have hXB : numX B k 255 ≤ 255 := by
    unfold numX
    split
    · rename_i h
      unfold numE at h
      split at h
      · cases h
      · rename_i hq; unfold numE at hE; omega
    · omega
  have HH := Lib.hid (fun W (h : Cur W p v B (byteK B (numK B k 255))) => rflow_any p _ (numX B k 255) v B W h (by have := hXB; omega))
  clear hc
  generalize hbx : byteX B (numK B k 255) = BX at *
  generalize byteE B (numK B k 255) = BE at *
  generalize byteK B (numK B k 255) = BK at *
  subst hb hw
  clear hbx
  generalize codedR B BK (numX B k 255) = CR at *
  generalize hgx : numX B k 255 = X at *
  generalize numK B k 255 = K at *
  generalize numE B k 255 = E at *
  subst hE
  clear hgx
  go_enter_defers Tryz.func29, Tryz.ntmps29
  go_wp2_with (first | (go_at_call 53; go_loud (refine HN.out.mono ?_; rintro e w1 ⟨he, -, cur1, k1⟩; obtain rfl := he rfl; replace bo := bo.keeps k1 (by simp; omega); replace be := be.keeps k1 (by simp; omega); replace br := br.keeps k1 (by simp; omega); obtain ⟨br0, -⟩ := br.one; have lbr := br.lt)) | (go_at_call 54; go_loud (refine (wis_yes (by simp [*]) 12 _).mono ?_; rintro e w2 ⟨rfl, rfl⟩)))
  have bx := Blk.new w1 #[.func (.func 55) #[.agg #[.pointer (some ⟨p, 0, none⟩)]] #[], .func (.func 56) #[.agg #[.pointer (some ⟨p, 0, none⟩)]] #[]] 76
  have kx := (Keeps.refl w1 []).alloc (.cells #[.func (.func 55) #[.agg #[.pointer (some ⟨p, 0, none⟩)]] #[], .func (.func 56) #[.agg #[.pointer (some ⟨p, 0, none⟩)]] #[]] 76)
  have HB1 := HB.out _ (cur1.keeps kx)
  replace bo := bo.keeps kx (by simp)
  replace be := be.keeps kx (by simp)
  replace k0 : Keeps w _ [p] := (((k0.mono (S' := [p]) (by simp)).trans k1 (fun j hj _ => hj)).then kx)
  clear cur1 br br0 kx k1 he HB HN
  generalize (w1.alloc (.cells #[.func (.func 55) #[.agg #[.pointer (some ⟨p, 0, none⟩)]] #[], .func (.func 56) #[.agg #[.pointer (some ⟨p, 0, none⟩)]] #[]] 76)) = W1 at *
  generalize w1.heap.size = G at *
  refine HB1.mono ?_
  rintro e w2 ⟨he, -, cur, k2⟩
  obtain rfl := he rfl
  replace bo := bo.keeps k2 (by simp; omega)
  replace be := be.keeps k2 (by simp; omega)
  replace bx := bx.keeps k2 (by simp; omega)
  replace k0 := k0.trans k2 (fun j hj _ => hj)
  have HH1 := HH.out _ cur
  obtain ⟨bx0, -⟩ := (⟨bx.cell 1, bx.frozen 1⟩ : _ ∧ _)
  simp only [List.getElem?_toArray, List.getElem?_cons_succ, List.getElem?_cons_zero] at bx0
  go_wp2_with (go_at_call 54; go_loud (refine (wis_yes (by simp) 12 _).mono ?_; rintro e w3 ⟨rfl, rfl⟩))
  refine HH1.mono ?_
  rintro e w4 ⟨k4, cur4, hcod⟩
  replace bo := bo.keeps k4 (by simp; omega)
  replace be := be.keeps k4 (by simp; omega)
  replace k0 := k0.trans k4 (fun j hj _ => hj)
  replace cur := cur4
  rw [hh] at hcod
  obtain ⟨r4, rfl, rd4, -⟩ := hcod
  obtain ⟨a4, n4, c4, rfl, -, -⟩ := rd4.form
  have HT := wtree_any _ _ w4 rd4 hL
  clear HH1 rd4 cur4
  go_wp2_with fail
  refine HT.mono ?_
  rintro e w5 ⟨k5, he, -⟩
  obtain ⟨v5, rfl, r5, f5⟩ := he ht
  have hs4 := k0.size
  have hlbb : w.heap.size + 2 ≤ w4.heap.size := by have := be.lt; omega
  replace bo := bo.keeps k5 (by simp)
  replace be := be.keeps k5 (by simp)
  replace k0 := k0.then k5
  replace cur := cur.keeps k5
  have hlb4 : Hid (w.heap.size + 2 ≤ w4.heap.size) := hlbb
  obtain ⟨a5, n5, c5, rfl, -, -⟩ := r5.form
  obtain ⟨e0, e1⟩ := be.one
  obtain ⟨o0, o1⟩ := bo.one
  have R1 := Lib.hid r5
  have F1 := Lib.hid f5
  have CU := Lib.hid cur
  have hlb := hlb4.out
  generalize vW L = V at *
  generalize tOf L = TO at *
  clear r5 f5 cur HT ht
  go_wp2_with fail
  refine leaves_cons (f := 35) (args := #[.pointer (some ⟨w.heap.size + 1, 0, none⟩), .func (.func 52) #[] #[.pointer (some ⟨w.heap.size, 0, none⟩)]]) (by simp) (by simp [go_sem]) ?_
  refine (wcaught_idle _ _ _).mono ?_
  rintro e u' w'' ⟨rfl, rfl, rfl⟩
  refine ⟨.tuple #[.slice a5 n5 c5, .int .i64 0], by simp only [results, Tryz.results29]; go_simp, ?_⟩
  refine ⟨_, rfl, R1.out.keepsS (S := [w.heap.size, w.heap.size + 1]) (by repeat (first | exact Keeps.refl _ _ | refine Keeps.setCell' (.inr (by simp)) ?_)) (fun ad m c he _ hm => ?_), F1.out.mono (by omega), ?_, by repeat (first | exact k0 | refine Keeps.setCell' (.inl (by dsimp only; omega)) ?_)⟩
  · have := F1.out ad m c he
    simp at hm
    omega
  · exact CU.out.keepsS (S := [w.heap.size, w.heap.size + 1]) (by repeat (first | exact Keeps.refl _ _ | refine Keeps.setCell' (.inr (by simp)) ?_)) (by simp; omega) (fun ad n c he h0 hm => by have := HOLD.out ad n c he h0; simp at hm; omega)
end

section
set_option linter.unusedVariables false
set_option linter.unusedSimpArgs false
set_option linter.unusedSectionVars false
open Go.RowKit

set_option maxHeartbeats 600000 in
/-- The deferred function where an error was raised: the result is cleared, the error is laid. -/
theorem wcaught_from (pe po : Nat) (n : Int) (x z : Value) (te tq : TypeId) (older : List PanicEntry) (w : World) (he : Blk w pe #[z] te) (ho : Blk w po #[x] tq) (h1 : pe ≠ po) :
    CallsD Tryz.prog 35 #[.pointer (some ⟨pe, 0, none⟩), .func (.func 36) #[] #[.pointer (some ⟨po, 0, none⟩)]] (.panicking (raisedBy n false :: older)) w fun e u' w' =>
      e = .returned (.tuple #[]) ∧ u' = .panicking (raisedBy n true :: older) ∧ w' = (w.setCell ⟨po, 0, none⟩ (.slice none 0 0)).setCell ⟨pe, 0, none⟩ (.int .i64 n) := by
  obtain ⟨c0, f0⟩ := he.one
  obtain ⟨c1, f1⟩ := ho.one
  have hta : ∀ w : World, (Instr.typeAssert (.iface 24 (.int .i64 n)) 20 24 true).run Tryz.prog w = .ok (.tuple #[.int .i64 n, .bool true]) w := fun _ => by kernel_rfl
  have h1' := h1.symm
  refine callsD_of_wpS Tryz.func35 rfl fun c₀ cs hu => ?_
  simp only [Tryz.ntmps35, List.size_toArray, List.length_cons, List.length_nil, Nat.reduceAdd, Nat.reduceSub, Array.replicate_succ, Array.replicate_zero, List.push_toArray, List.append_toArray, List.nil_append, List.cons_append]
  apply wpS_seq
  apply wpS_region
  simp [wpOpsS, go_sem, recoverD, hu, Exit.thenS, raisedBy]
  refine wpS_of_wp ?_
  have HU := Lib.hid hu
  clear hu
  go_wp2
  go_end0
  go_wp2
  refine ⟨rfl, .panicking (raisedBy n true :: older), ?_, .tuple #[], by simp [results, Tryz.results35], rfl, rfl, rfl⟩
  simp [raisedBy]

set_option maxHeartbeats 600000 in
/-- The deferred function where an error was raised: the result is cleared, the error is laid. -/
theorem wcaught_tree (pe po : Nat) (n : Int) (x z : Value) (te tq : TypeId) (older : List PanicEntry) (w : World) (he : Blk w pe #[z] te) (ho : Blk w po #[x] tq) (h1 : pe ≠ po) :
    CallsD Tryz.prog 35 #[.pointer (some ⟨pe, 0, none⟩), .func (.func 39) #[] #[.pointer (some ⟨po, 0, none⟩)]] (.panicking (raisedBy n false :: older)) w fun e u' w' =>
      e = .returned (.tuple #[]) ∧ u' = .panicking (raisedBy n true :: older) ∧ w' = (w.setCell ⟨po, 0, none⟩ (.slice none 0 0)).setCell ⟨pe, 0, none⟩ (.int .i64 n) := by
  obtain ⟨c0, f0⟩ := he.one
  obtain ⟨c1, f1⟩ := ho.one
  have hta : ∀ w : World, (Instr.typeAssert (.iface 24 (.int .i64 n)) 20 24 true).run Tryz.prog w = .ok (.tuple #[.int .i64 n, .bool true]) w := fun _ => by kernel_rfl
  have h1' := h1.symm
  refine callsD_of_wpS Tryz.func35 rfl fun c₀ cs hu => ?_
  simp only [Tryz.ntmps35, List.size_toArray, List.length_cons, List.length_nil, Nat.reduceAdd, Nat.reduceSub, Array.replicate_succ, Array.replicate_zero, List.push_toArray, List.append_toArray, List.nil_append, List.cons_append]
  apply wpS_seq
  apply wpS_region
  simp [wpOpsS, go_sem, recoverD, hu, Exit.thenS, raisedBy]
  refine wpS_of_wp ?_
  have HU := Lib.hid hu
  clear hu
  go_wp2
  go_end0
  go_wp2
  refine ⟨rfl, .panicking (raisedBy n true :: older), ?_, .tuple #[], by simp [results, Tryz.results35], rfl, rfl, rfl⟩
  simp [raisedBy]

set_option maxHeartbeats 600000 in
/-- The deferred function where an error was raised: the result is cleared, the error is laid. -/
theorem wcaught_last (pe po : Nat) (n : Int) (x z : Value) (te tq : TypeId) (older : List PanicEntry) (w : World) (he : Blk w pe #[z] te) (ho : Blk w po #[x] tq) (h1 : pe ≠ po) :
    CallsD Tryz.prog 35 #[.pointer (some ⟨pe, 0, none⟩), .func (.func 42) #[] #[.pointer (some ⟨po, 0, none⟩)]] (.panicking (raisedBy n false :: older)) w fun e u' w' =>
      e = .returned (.tuple #[]) ∧ u' = .panicking (raisedBy n true :: older) ∧ w' = (w.setCell ⟨po, 0, none⟩ (.int .i64 0)).setCell ⟨pe, 0, none⟩ (.int .i64 n) := by
  obtain ⟨c0, f0⟩ := he.one
  obtain ⟨c1, f1⟩ := ho.one
  have hta : ∀ w : World, (Instr.typeAssert (.iface 24 (.int .i64 n)) 20 24 true).run Tryz.prog w = .ok (.tuple #[.int .i64 n, .bool true]) w := fun _ => by kernel_rfl
  have h1' := h1.symm
  refine callsD_of_wpS Tryz.func35 rfl fun c₀ cs hu => ?_
  simp only [Tryz.ntmps35, List.size_toArray, List.length_cons, List.length_nil, Nat.reduceAdd, Nat.reduceSub, Array.replicate_succ, Array.replicate_zero, List.push_toArray, List.append_toArray, List.nil_append, List.cons_append]
  apply wpS_seq
  apply wpS_region
  simp [wpOpsS, go_sem, recoverD, hu, Exit.thenS, raisedBy]
  refine wpS_of_wp ?_
  have HU := Lib.hid hu
  clear hu
  go_wp2
  go_end0
  go_wp2
  refine ⟨rfl, .panicking (raisedBy n true :: older), ?_, .tuple #[], by simp [results, Tryz.results35], rfl, rfl, rfl⟩
  simp [raisedBy]

set_option maxHeartbeats 600000 in
/-- The deferred function where an error was raised: the result is cleared, the error is laid. -/
theorem wcaught_desc (pe po : Nat) (n : Int) (x z : Value) (te tq : TypeId) (older : List PanicEntry) (w : World) (he : Blk w pe #[z] te) (ho : Blk w po #[x] tq) (h1 : pe ≠ po) :
    CallsD Tryz.prog 35 #[.pointer (some ⟨pe, 0, none⟩), .func (.func 66) #[] #[.pointer (some ⟨po, 0, none⟩)]] (.panicking (raisedBy n false :: older)) w fun e u' w' =>
      e = .returned (.tuple #[]) ∧ u' = .panicking (raisedBy n true :: older) ∧ w' = (w.setCell ⟨po, 0, none⟩ (.slice none 0 0)).setCell ⟨pe, 0, none⟩ (.int .i64 n) := by
  obtain ⟨c0, f0⟩ := he.one
  obtain ⟨c1, f1⟩ := ho.one
  have hta : ∀ w : World, (Instr.typeAssert (.iface 24 (.int .i64 n)) 20 24 true).run Tryz.prog w = .ok (.tuple #[.int .i64 n, .bool true]) w := fun _ => by kernel_rfl
  have h1' := h1.symm
  refine callsD_of_wpS Tryz.func35 rfl fun c₀ cs hu => ?_
  simp only [Tryz.ntmps35, List.size_toArray, List.length_cons, List.length_nil, Nat.reduceAdd, Nat.reduceSub, Array.replicate_succ, Array.replicate_zero, List.push_toArray, List.append_toArray, List.nil_append, List.cons_append]
  apply wpS_seq
  apply wpS_region
  simp [wpOpsS, go_sem, recoverD, hu, Exit.thenS, raisedBy]
  refine wpS_of_wp ?_
  have HU := Lib.hid hu
  clear hu
  go_wp2
  go_end0
  go_wp2
  refine ⟨rfl, .panicking (raisedBy n true :: older), ?_, .tuple #[], by simp [results, Tryz.results35], rfl, rfl, rfl⟩
  simp [raisedBy]

set_option maxRecDepth 100000 in
set_option maxHeartbeats 2000000 in
theorem fromTree_no (v : Value) (l : List Int) (w : World) (hv : RdI .i64 w v l) (hn : l.length ≤ 1000000) (ht : treeL l = false) : Calls Tryz.prog 13 #[v] w (LsEnd w [] 12) := by
  have hmf : ∀ (fn : Fn) (first cap : Array Value) (w : World), (Instr.makeFunc fn first cap).run Tryz.prog w = .ok (.func fn first cap) w := fun _ _ _ _ => rfl
  have HO := Lib.hid (fun w' (k : Keeps w w' []) => wof_no v l w' (hv.keeps k) hn ht)
  obtain ⟨A0, n, cp0, rfl, -, -⟩ := hv.form
  clear hv ht
  go_enter_defers Tryz.func13, Tryz.ntmps13
  go_wp2_with fail
  have k0 : Keeps w ((w.alloc (.cells #[.slice none 0 0] 22)).alloc (.cells #[.int .i64 0] 24)) [] := ((Keeps.refl w []).alloc _).alloc _
  have bo := (Blk.new w #[.slice none 0 0] 22).alloc (.cells #[.int .i64 0] 24)
  have be := Blk.new (w.alloc (.cells #[.slice none 0 0] 22)) #[.int .i64 0] 24
  simp only [World.size_alloc] at be
  refine (HO.out _ k0).mono ?_
  rintro e w1 ⟨rfl, k1⟩
  replace bo := bo.keeps k1 (by simp)
  replace be := be.keeps k1 (by simp)
  replace k0 := k0.then k1
  clear k1
  obtain ⟨e0, e1⟩ := be.one
  obtain ⟨o0, o1⟩ := bo.one
  go_wp2_with fail
  refine leaves_cons (f := 35) (args := #[.pointer (some ⟨w.heap.size + 1, 0, none⟩), .func (.func 36) #[] #[.pointer (some ⟨w.heap.size, 0, none⟩)]]) (by simp) (by simp [go_sem]) ?_
  refine (wcaught_from _ _ 12 _ _ _ _ [] _ be bo (by omega)).mono ?_
  rintro e u' w'' ⟨rfl, rfl, rfl⟩
  refine ⟨.tuple #[.slice none 0 0, .int .i64 12], by simp only [results, Tryz.results13]; go_simp, ?_⟩
  refine ⟨_, rfl, .nil, .nil, ?_⟩
  exact Keeps.setCell' (.inl (by dsimp only; omega)) (Keeps.setCell' (.inl (by dsimp only; omega)) k0)

set_option maxRecDepth 100000 in
set_option maxHeartbeats 2000000 in
theorem fromTree_yes (v : Value) (l : List Int) (w : World) (hv : RdI .i64 w v l) (hn : l.length ≤ 1000000) (ht : treeL l = true) : Calls Tryz.prog 13 #[v] w (LsEnd w (wOf l) 0) := by
  have hmf : ∀ (fn : Fn) (first cap : Array Value) (w : World), (Instr.makeFunc fn first cap).run Tryz.prog w = .ok (.func fn first cap) w := fun _ _ _ _ => rfl
  have HO := Lib.hid (fun w' (k : Keeps w w' []) => wof_yes v l w' (hv.keeps k) hn ht)
  obtain ⟨A0, n, cp0, rfl, -, -⟩ := hv.form
  clear hv ht
  go_enter_defers Tryz.func13, Tryz.ntmps13
  go_wp2_with fail
  have k0 : Keeps w ((w.alloc (.cells #[.slice none 0 0] 22)).alloc (.cells #[.int .i64 0] 24)) [] := ((Keeps.refl w []).alloc _).alloc _
  have bo := (Blk.new w #[.slice none 0 0] 22).alloc (.cells #[.int .i64 0] 24)
  have be := Blk.new (w.alloc (.cells #[.slice none 0 0] 22)) #[.int .i64 0] 24
  simp only [World.size_alloc] at be
  refine (HO.out _ k0).mono ?_
  rintro e w1 ⟨v1, rfl, r1, f1, k1⟩
  replace bo := bo.keeps k1 (by simp)
  replace be := be.keeps k1 (by simp)
  replace k0 := k0.then k1
  clear k1
  simp only [World.size_alloc] at f1
  obtain ⟨a1, n1, c1, rfl, -, -⟩ := r1.form
  obtain ⟨e0, e1⟩ := be.one
  obtain ⟨o0, o1⟩ := bo.one
  have R1 := Lib.hid r1
  clear r1
  go_wp2_with fail
  refine leaves_cons (f := 35) (args := #[.pointer (some ⟨w.heap.size + 1, 0, none⟩), .func (.func 36) #[] #[.pointer (some ⟨w.heap.size, 0, none⟩)]]) (by simp) (by simp [go_sem]) ?_
  refine (wcaught_idle _ _ _).mono ?_
  rintro e u' w'' ⟨rfl, rfl, rfl⟩
  refine ⟨.tuple #[.slice a1 n1 c1, .int .i64 0], by simp only [results, Tryz.results13]; go_simp, ?_⟩
  have kx : Keeps w1 ((w1.setCell ⟨w.heap.size, 0, none⟩ (.slice a1 n1 c1)).setCell ⟨w.heap.size + 1, 0, none⟩ (.int .i64 0)) [w.heap.size, w.heap.size + 1] := Keeps.setCell' (.inr (by simp)) (Keeps.setCell' (.inr (by simp)) (Keeps.refl _ _))
  refine ⟨_, rfl, R1.out.keepsS kx (fun ad m c he _ hm => ?_), f1.mono (by omega), Keeps.setCell' (.inl (by dsimp only; omega)) (Keeps.setCell' (.inl (by dsimp only; omega)) k0)⟩
  have := f1 ad m c he
  simp at hm
  omega
end

section
set_option linter.unusedVariables false
set_option linter.unusedSimpArgs false
set_option linter.unusedSectionVars false
open Go.RowKit

theorem shr_sum {S X : Nat} (h1 : 1 ≤ X) (hX : X ≤ 11) (hS : S ≤ 1024000000) : wrap64 ((S : Int) + 2048 / (2 : Int) ^ X) = ((S + (if 0 < (X : Int) then 2 ^ (11 - X) else 0) : Nat) : Int) := by
  have h : X = 1 ∨ X = 2 ∨ X = 3 ∨ X = 4 ∨ X = 5 ∨ X = 6 ∨ X = 7 ∨ X = 8 ∨ X = 9 ∨ X = 10 ∨ X = 11 := by omega
  rcases h with rfl | rfl | rfl | rfl | rfl | rfl | rfl | rfl | rfl | rfl | rfl <;> simp [wrap64] <;> omega

set_option maxHeartbeats 2000000 in
theorem r_right14 (v : Value) (l : List Int) (w : World) (hv : RdI .i64 w v l) (hn : l.length ≤ 1000000) :
    Calls Tryz.prog 19 #[v] w fun e w' => e = .returned (.bool (treeL l)) ∧ w = w' := by
  obtain ⟨A0, n, cp0, rfl, hnl, -⟩ := hv.form
  have HV := Lib.hid hv
  have HN := Lib.hid hnl
  have hn' : n ≤ 1000000 := by omega
  obtain ⟨R, hR⟩ : ∃ R, R = treeL l := ⟨_, rfl⟩
  have HR := Lib.hid hR
  rw [← hR]
  clear hv hnl hn hR
  by_cases h256 : 256 < n
  · have NO : R = false := by rw [HR.out, Bool.eq_false_iff]; intro h; have := (treeL_iff.1 h).1; have := HN.out; omega
    subst NO
    have h256' : (256 : Int) < (n : Int) := by omega
    clear HR
    go_enter Tryz.func19, Tryz.ntmps19
    go_wp2_with fail
    go_ret
    exact ⟨rfl, rfl⟩
  · have d256 : decide ((256 : Int) < (n : Int)) = false := decide_eq_false (by omega)
    have hn2 : n ≤ 256 := by omega
    go_enter Tryz.func19, Tryz.ntmps19
    go_wp2_with fail
    clear d256
    go_loop [3, 4, 5] (fun s c i => ∃ k : Nat, k ≤ n ∧ i = .int .i64 k ∧ s = .int .i64 (sum11 (l.take k) : Nat) ∧ c = .int .i64 (usedL (l.take k)).length ∧ Hid ((l.take k).all (finM 11) = true)) (fun _ _ i => n - (intOf i).toNat)
    case atStart => exact ⟨0, Nat.zero_le _, rfl, rfl, rfl, by simp [Hid]⟩
    case round =>
      obtain ⟨k, hk, rfl, rfl, rfl, hall⟩ := hrel
      by_cases hlt : k < n
      · obtain ⟨x, hx⟩ : ∃ x, l[k]? = some x := ⟨_, List.getElem?_eq_getElem (by have := HN.out; omega)⟩
        obtain ⟨b, o, rfl, hb, hc⟩ := HV.out.at hx
        have hcap := HV.out.cap
        have hkn : (k : Int) < (n : Int) := by omega
        have hs1 := sum11_le (l.take k)
        have hs2 : (l.take k).length ≤ k := List.length_take_le _ _
        have hu1 : (usedL (l.take k)).length ≤ k := by have := usedL_len (l.take k); simp at this; omega
        have HST : Hid (sum11 (l.take (k + 1)) = sum11 (l.take k) + if 0 < x then 2 ^ (11 - x.toNat) else 0) := by show _ = _; rw [take_next hx, sum11_snoc]
        have HUC := Lib.hid (usedL_count hx)
        have HAL : Hid (finM 11 x = true → (l.take (k + 1)).all (finM 11) = true) := fun h => by rw [take_next hx, List.all_append, hall.out]; simp [h]
        have HBAD : Hid (finM 11 x = false → R = false) := fun h => by
          rw [HR.out, Bool.eq_false_iff]
          intro ht
          have := (treeL_iff.1 ht).2.1 x (List.mem_of_getElem? hx)
          rw [← Bool.not_eq_true, finM_iff] at h
          exact h this
        obtain ⟨S, hS⟩ : ∃ S, S = sum11 (l.take k) := ⟨_, rfl⟩
        obtain ⟨U, hU⟩ : ∃ U, U = (usedL (l.take k)).length := ⟨_, rfl⟩
        rw [← hS] at hs1 HST ⊢
        rw [← hU] at hu1 HUC ⊢
        have hS9 : S ≤ 1024000000 := by omega
        have hU9 : (U : Int) ≤ 1000000 := by omega
        clear hx hS hU hs1 hs2
        by_cases hx0 : x < 0
        · obtain rfl := HBAD.out (by simp [finM]; omega)
          clear HR
          go_wp2_with fail
          go_ret
          exact ⟨rfl, rfl⟩
        · have d0 : decide (x < 0) = false := decide_eq_false hx0
          by_cases hx11 : 11 < x
          · obtain rfl := HBAD.out (by simp [finM]; omega)
            clear HR
            go_wp2_with fail
            go_ret
            exact ⟨rfl, rfl⟩
          · have d1 : decide (11 < x) = false := decide_eq_false hx11
            have NAL := Lib.hid (HAL.out (finM_iff.2 ⟨by omega, by omega⟩))
            by_cases hp : 0 < x
            · obtain ⟨X, rfl⟩ : ∃ X : Nat, x = (X : Int) := ⟨x.toNat, by omega⟩
              have hX1 : 1 ≤ X := by omega
              have hX2 : X ≤ 11 := by omega
              have hsum : Hid (wrap64 ((S : Int) + 2048 / (2 : Int) ^ X) = ((sum11 (l.take (k + 1)) : Nat) : Int)) := by
                show _ = _
                rw [shr_sum hX1 hX2 hS9, HST.out, Int.toNat_natCast]
              clear HBAD HAL HST
              go_wp2_with fail
              go_round
              case rel => exact ⟨k + 1, by omega, by go_num, by rw [hsum.out], by rw [HUC.out, if_pos hp]; go_num, NAL⟩
              case measure => simp [intOf]; omega
            · have d2 : decide (0 < x) = false := decide_eq_false hp
              clear HBAD HAL
              go_wp2_with fail
              go_round
              case rel => exact ⟨k + 1, by omega, by go_num, by rw [HST.out, if_neg hp, Nat.add_zero], by rw [HUC.out, if_neg hp, Nat.add_zero], NAL⟩
              case measure => simp [intOf]; omega
      · obtain rfl : k = n := by omega
        have hR2 : Hid (R = (decide (2 ≤ ((usedL (l.take k)).length : Int)) && ((sum11 (l.take k) : Nat) : Int) == 2048)) := by
          have e : l.take k = l := List.take_of_length_le (by have := HN.out; omega)
          have h1 := hall.out
          rw [e] at h1
          show _ = _
          rw [HR.out, e, Bool.eq_iff_iff]
          have h2 := HN.out
          simp [treeL, h1, ← h2]
          omega
        have HR2 := Lib.hid hR2.out
        clear hR2 HR
        generalize sum11 (l.take k) = S at *
        generalize (usedL (l.take k)).length = U at *
        go_wp2_with fail
        all_goals
          go_ret
          refine ⟨ret_bool ?_, rfl⟩
          rw [HR2.out]
          first | (simp [*]; done) | (simp [*]; omega)
end

section
set_option linter.unusedVariables false
set_option linter.unusedSimpArgs false
set_option linter.unusedSectionVars false
open Go.RowKit

/-- What both return: the weights, or the error. -/
def fromOut (l : List Int) : List Int := if treeL l then wOf l else []
def fromErr (l : List Int) : Int := if treeL l then 0 else 12

theorem fromTree_any (v : Value) (l : List Int) (w : World) (hv : RdI .i64 w v l) (hn : l.length ≤ 1000000) : Calls Tryz.prog 13 #[v] w (LsEnd w (fromOut l) (fromErr l)) := by
  cases ht : treeL l with
  | false => simpa [fromOut, fromErr, ht] using fromTree_no v l w hv hn ht
  | true => simpa [fromOut, fromErr, ht] using fromTree_yes v l w hv hn ht
end

section
set_option linter.unusedVariables false
set_option linter.unusedSimpArgs false
set_option linter.unusedSectionVars false
open Go.RowKit

set_option maxRecDepth 100000 in
set_option maxHeartbeats 2000000 in
theorem toTree_no (v : Value) (l : List Int) (w : World) (hv : RdI .i64 w v l) (hn : l.length ≤ 1000000) (ht : okW l = false) : Calls Tryz.prog 17 #[v] w (LsEnd w [] 12) := by
  have hmf : ∀ (fn : Fn) (first cap : Array Value) (w : World), (Instr.makeFunc fn first cap).run Tryz.prog w = .ok (.func fn first cap) w := fun _ _ _ _ => rfl
  have HO := Lib.hid (fun w' (k : Keeps w w' []) => (wtree_any v l w' (hv.keeps k) hn).mono fun e w'' h => (⟨h.2.2 ht, h.1⟩ : e = .panicked [raisedBy 12 false] ∧ Keeps w' w'' []))
  obtain ⟨A0, n, cp0, rfl, -, -⟩ := hv.form
  clear hv ht
  go_enter_defers Tryz.func17, Tryz.ntmps17
  go_wp2_with fail
  have k0 : Keeps w ((w.alloc (.cells #[.slice none 0 0] 22)).alloc (.cells #[.int .i64 0] 24)) [] := ((Keeps.refl w []).alloc _).alloc _
  have bo := (Blk.new w #[.slice none 0 0] 22).alloc (.cells #[.int .i64 0] 24)
  have be := Blk.new (w.alloc (.cells #[.slice none 0 0] 22)) #[.int .i64 0] 24
  simp only [World.size_alloc] at be
  refine (HO.out _ k0).mono ?_
  rintro e w1 ⟨rfl, k1⟩
  replace bo := bo.keeps k1 (by simp)
  replace be := be.keeps k1 (by simp)
  replace k0 := k0.then k1
  clear k1
  obtain ⟨e0, e1⟩ := be.one
  obtain ⟨o0, o1⟩ := bo.one
  go_wp2_with fail
  refine leaves_cons (f := 35) (args := #[.pointer (some ⟨w.heap.size + 1, 0, none⟩), .func (.func 39) #[] #[.pointer (some ⟨w.heap.size, 0, none⟩)]]) (by simp) (by simp [go_sem]) ?_
  refine (wcaught_tree _ _ 12 _ _ _ _ [] _ be bo (by omega)).mono ?_
  rintro e u' w'' ⟨rfl, rfl, rfl⟩
  refine ⟨.tuple #[.slice none 0 0, .int .i64 12], by simp only [results, Tryz.results17]; go_simp, ?_⟩
  refine ⟨_, rfl, .nil, .nil, ?_⟩
  exact Keeps.setCell' (.inl (by dsimp only; omega)) (Keeps.setCell' (.inl (by dsimp only; omega)) k0)

set_option maxRecDepth 100000 in
set_option maxHeartbeats 2000000 in
theorem toTree_yes (v : Value) (l : List Int) (w : World) (hv : RdI .i64 w v l) (hn : l.length ≤ 1000000) (ht : okW l = true) : Calls Tryz.prog 17 #[v] w (LsEnd w (tOf l) 0) := by
  have hmf : ∀ (fn : Fn) (first cap : Array Value) (w : World), (Instr.makeFunc fn first cap).run Tryz.prog w = .ok (.func fn first cap) w := fun _ _ _ _ => rfl
  have HO := Lib.hid (fun w' (k : Keeps w w' []) => (wtree_any v l w' (hv.keeps k) hn).mono fun e w'' h => (⟨h.2.1 ht, h.1⟩ : (∃ v, e = .returned (.tuple #[v, .int .i64 (vW l)]) ∧ RdI .i64 w'' v (tOf l) ∧ Fresh w'.heap.size v) ∧ Keeps w' w'' []))
  obtain ⟨A0, n, cp0, rfl, -, -⟩ := hv.form
  clear hv ht
  generalize vW l = V at *
  go_enter_defers Tryz.func17, Tryz.ntmps17
  go_wp2_with fail
  have k0 : Keeps w ((w.alloc (.cells #[.slice none 0 0] 22)).alloc (.cells #[.int .i64 0] 24)) [] := ((Keeps.refl w []).alloc _).alloc _
  have bo := (Blk.new w #[.slice none 0 0] 22).alloc (.cells #[.int .i64 0] 24)
  have be := Blk.new (w.alloc (.cells #[.slice none 0 0] 22)) #[.int .i64 0] 24
  simp only [World.size_alloc] at be
  refine (HO.out _ k0).mono ?_
  rintro e w1 ⟨⟨v1, rfl, r1, f1⟩, k1⟩
  replace bo := bo.keeps k1 (by simp)
  replace be := be.keeps k1 (by simp)
  replace k0 := k0.then k1
  clear k1
  simp only [World.size_alloc] at f1
  obtain ⟨a1, n1, c1, rfl, -, -⟩ := r1.form
  obtain ⟨e0, e1⟩ := be.one
  obtain ⟨o0, o1⟩ := bo.one
  have R1 := Lib.hid r1
  clear r1
  go_wp2_with fail
  refine leaves_cons (f := 35) (args := #[.pointer (some ⟨w.heap.size + 1, 0, none⟩), .func (.func 39) #[] #[.pointer (some ⟨w.heap.size, 0, none⟩)]]) (by simp) (by simp [go_sem]) ?_
  refine (wcaught_idle _ _ _).mono ?_
  rintro e u' w'' ⟨rfl, rfl, rfl⟩
  refine ⟨.tuple #[.slice a1 n1 c1, .int .i64 0], by simp only [results, Tryz.results17]; go_simp, ?_⟩
  refine ⟨_, rfl, R1.out.keepsS (S := [w.heap.size, w.heap.size + 1]) (by repeat (first | exact Keeps.refl _ _ | refine Keeps.setCell' (.inr (by simp)) ?_)) (fun ad m c he _ hm => ?_), f1.mono (by omega), by repeat (first | exact k0 | refine Keeps.setCell' (.inl (by dsimp only; omega)) ?_)⟩
  have := f1 ad m c he
  simp at hm
  omega

set_option maxRecDepth 100000 in
set_option maxHeartbeats 2000000 in
theorem implied_no (v : Value) (l : List Int) (w : World) (hv : RdI .i64 w v l) (hn : l.length ≤ 1000000) (ht : okW l = false) : Calls Tryz.prog 20 #[v] w (NumEnd w 0 12) := by
  have hmf : ∀ (fn : Fn) (first cap : Array Value) (w : World), (Instr.makeFunc fn first cap).run Tryz.prog w = .ok (.func fn first cap) w := fun _ _ _ _ => rfl
  have HO := Lib.hid (fun w' (k : Keeps w w' []) => (wtree_any v l w' (hv.keeps k) hn).mono fun e w'' h => (⟨h.2.2 ht, h.1⟩ : e = .panicked [raisedBy 12 false] ∧ Keeps w' w'' []))
  obtain ⟨A0, n, cp0, rfl, -, -⟩ := hv.form
  clear hv ht
  go_enter_defers Tryz.func20, Tryz.ntmps20
  go_wp2_with fail
  have k0 : Keeps w ((w.alloc (.cells #[.int .i64 0] 3)).alloc (.cells #[.int .i64 0] 24)) [] := ((Keeps.refl w []).alloc _).alloc _
  have bo := (Blk.new w #[.int .i64 0] 3).alloc (.cells #[.int .i64 0] 24)
  have be := Blk.new (w.alloc (.cells #[.int .i64 0] 3)) #[.int .i64 0] 24
  simp only [World.size_alloc] at be
  refine (HO.out _ k0).mono ?_
  rintro e w1 ⟨rfl, k1⟩
  replace bo := bo.keeps k1 (by simp)
  replace be := be.keeps k1 (by simp)
  replace k0 := k0.then k1
  clear k1
  obtain ⟨e0, e1⟩ := be.one
  obtain ⟨o0, o1⟩ := bo.one
  go_wp2_with fail
  refine leaves_cons (f := 35) (args := #[.pointer (some ⟨w.heap.size + 1, 0, none⟩), .func (.func 42) #[] #[.pointer (some ⟨w.heap.size, 0, none⟩)]]) (by simp) (by simp [go_sem]) ?_
  refine (wcaught_last _ _ 12 _ _ _ _ [] _ be bo (by omega)).mono ?_
  rintro e u' w'' ⟨rfl, rfl, rfl⟩
  refine ⟨.tuple #[.int .i64 0, .int .i64 12], by simp only [results, Tryz.results20]; go_simp, ?_⟩
  refine ⟨rfl, ?_⟩
  exact Keeps.setCell' (.inl (by dsimp only; omega)) (Keeps.setCell' (.inl (by dsimp only; omega)) k0)

set_option maxRecDepth 100000 in
set_option maxHeartbeats 2000000 in
theorem implied_yes (v : Value) (l : List Int) (w : World) (hv : RdI .i64 w v l) (hn : l.length ≤ 1000000) (ht : okW l = true) : Calls Tryz.prog 20 #[v] w (NumEnd w (vW l) 0) := by
  have hmf : ∀ (fn : Fn) (first cap : Array Value) (w : World), (Instr.makeFunc fn first cap).run Tryz.prog w = .ok (.func fn first cap) w := fun _ _ _ _ => rfl
  have HO := Lib.hid (fun w' (k : Keeps w w' []) => (wtree_any v l w' (hv.keeps k) hn).mono fun e w'' h => (⟨h.2.1 ht, h.1⟩ : (∃ v, e = .returned (.tuple #[v, .int .i64 (vW l)]) ∧ RdI .i64 w'' v (tOf l) ∧ Fresh w'.heap.size v) ∧ Keeps w' w'' []))
  obtain ⟨A0, n, cp0, rfl, -, -⟩ := hv.form
  clear hv ht
  generalize vW l = V at *
  go_enter_defers Tryz.func20, Tryz.ntmps20
  go_wp2_with fail
  have k0 : Keeps w ((w.alloc (.cells #[.int .i64 0] 3)).alloc (.cells #[.int .i64 0] 24)) [] := ((Keeps.refl w []).alloc _).alloc _
  have bo := (Blk.new w #[.int .i64 0] 3).alloc (.cells #[.int .i64 0] 24)
  have be := Blk.new (w.alloc (.cells #[.int .i64 0] 3)) #[.int .i64 0] 24
  simp only [World.size_alloc] at be
  refine (HO.out _ k0).mono ?_
  rintro e w1 ⟨⟨v1, rfl, r1, f1⟩, k1⟩
  replace bo := bo.keeps k1 (by simp)
  replace be := be.keeps k1 (by simp)
  replace k0 := k0.then k1
  clear k1
  simp only [World.size_alloc] at f1
  obtain ⟨a1, n1, c1, rfl, -, -⟩ := r1.form
  obtain ⟨e0, e1⟩ := be.one
  obtain ⟨o0, o1⟩ := bo.one
  have R1 := Lib.hid r1
  clear r1
  go_wp2_with fail
  refine leaves_cons (f := 35) (args := #[.pointer (some ⟨w.heap.size + 1, 0, none⟩), .func (.func 42) #[] #[.pointer (some ⟨w.heap.size, 0, none⟩)]]) (by simp) (by simp [go_sem]) ?_
  refine (wcaught_idle _ _ _).mono ?_
  rintro e u' w'' ⟨rfl, rfl, rfl⟩
  refine ⟨.tuple #[.int .i64 V, .int .i64 0], by simp only [results, Tryz.results20]; go_simp, ?_⟩
  refine ⟨rfl, by repeat (first | exact k0 | refine Keeps.setCell' (.inl (by dsimp only; omega)) ?_)⟩
end

section
set_option linter.unusedVariables false
set_option linter.unusedSimpArgs false
set_option linter.unusedSectionVars false
open Go.RowKit

/-- What last returns. -/
def LastEnd (w : World) (l : List Int) (e : Ending) (w' : World) : Prop := (okW l = true → e = .returned (.tuple #[.int .i64 (kW l), .int .i64 (vW l), .int .i64 0])) ∧ (okW l = false → e = .returned (.tuple #[.int .i64 0, .int .i64 0, .int .i64 12])) ∧ ∃ m, w' = w.drewN m
theorem LastEnd.no {w : World} {l : List Int} (h : okW l = false) (m : Nat) : LastEnd w l (.returned (.tuple #[.int .i64 0, .int .i64 0, .int .i64 12])) (w.drewN m) := ⟨(fun h' => by rw [h] at h'; cases h'), fun _ => rfl, m, rfl⟩

/-- Last, whatever it is asked. -/
def lastOut (l : List Int) : Int := if okW l then vW l else 0
def treeErr (l : List Int) : Int := if okW l then 0 else 12
theorem implied_any (v : Value) (l : List Int) (w : World) (hv : RdI .i64 w v l) (hn : l.length ≤ 1000000) : Calls Tryz.prog 20 #[v] w (NumEnd w (lastOut l) (treeErr l)) := by
  cases hok : okW l with
  | false => simpa [lastOut, treeErr, hok] using implied_no v l w hv hn hok
  | true => simpa [lastOut, treeErr, hok] using implied_yes v l w hv hn hok
end

section
set_option linter.unusedVariables false
set_option linter.unusedSimpArgs false
set_option linter.unusedSectionVars false
open Go.RowKit

def treeOut (l : List Int) : List Int := if okW l then tOf l else []

theorem toTree_any (v : Value) (l : List Int) (w : World) (hv : RdI .i64 w v l) (hn : l.length ≤ 1000000) : Calls Tryz.prog 17 #[v] w (LsEnd w (treeOut l) (treeErr l)) := by
  cases ht : okW l with
  | false => simpa [treeOut, treeErr, ht] using toTree_no v l w hv hn ht
  | true => simpa [treeOut, treeErr, ht] using toTree_yes v l w hv hn ht
end

section
set_option linter.unusedVariables false
set_option linter.unusedSimpArgs false
set_option linter.unusedSectionVars false
open Go.RowKit
end

section
set_option linter.unusedVariables false
set_option linter.unusedSimpArgs false
set_option linter.unusedSectionVars false
open Go.RowKit

/-- A call returns bytes and an error, and leaves the memory that was there. -/
def BtEnd (w : World) (l : List Int) (n : Int) (e : Ending) (w' : World) : Prop := ∃ v, e = .returned (.tuple #[v, .int .i64 n]) ∧ RdI .u8 w' v l ∧ Fresh w.heap.size v ∧ Keeps w w' []

theorem okW_bound {l : List Int} (h : okW l = true) : ∀ x ∈ l, 0 ≤ x ∧ x ≤ 11 := by
  intro x hx
  simp only [okW, Bool.and_eq_true] at h
  exact finM_iff.1 (List.all_eq_true.1 h.1.1.2 x hx)

set_option maxRecDepth 100000 in
theorem ways_any (w : World) : Calls Tryz.prog 60 #[] w fun e w' => e = .returned (.agg #[.func (.func 80) #[] #[], .func (.func 81) #[] #[]]) ∧ Keeps w w' [] := by
  go_enter Tryz.func60, Tryz.ntmps60
  go_wp2_with fail
  refine bodyPost_ret (v := .agg #[.func (.func 80) #[] #[], .func (.func 81) #[] #[]]) (by simp only [results, Tryz.results60]; go_simp) rfl ⟨rfl, (Keeps.refl _ _).alloc _⟩

set_option maxRecDepth 100000 in
set_option maxHeartbeats 2000000 in
theorem described_yes (v : Value) (l : List Int) (w : World) (hv : RdI .i64 w v l) (hn : l.length ≤ 1000000) (ht : okW l = true) : Calls Tryz.prog 43 #[v, .int .i64 0] w (BtEnd w (halvesL l) 0) := by
  have hmf : ∀ (fn : Fn) (first cap : Array Value) (w : World), (Instr.makeFunc fn first cap).run Tryz.prog w = .ok (.func fn first cap) w := fun _ _ _ _ => rfl
  have HO := Lib.hid (fun w' (k : Keeps w w' []) => (wtree_any v l w' (hv.keeps k) hn).mono fun e w'' h => (⟨h.2.1 ht, h.1⟩ : (∃ v, e = .returned (.tuple #[v, .int .i64 (vW l)]) ∧ RdI .i64 w'' v (tOf l) ∧ Fresh w'.heap.size v) ∧ Keeps w' w'' []))
  have HH := Lib.hid (fun w' (k : Keeps w w' []) => halved_any v l w' (hv.keeps k) hn (okW_bound ht))
  have hix : ∀ w : World, (Instr.index 80 (.agg #[.func (.func 80) #[] #[], .func (.func 81) #[] #[]]) (.int .i64 0)).run Tryz.prog w = .ok (.func (.func 80) #[] #[]) w := fun w => by simp [Instr.index, go_sem]
  obtain ⟨A0, n, cp0, rfl, -, -⟩ := hv.form
  clear hv ht
  generalize vW l = V at *
  go_enter_defers Tryz.func43, Tryz.ntmps43
  go_wp2_with fail
  have k0 : Keeps w ((w.alloc (.cells #[.slice none 0 0] 36)).alloc (.cells #[.int .i64 0] 24)) [] := ((Keeps.refl w []).alloc _).alloc _
  have bo := (Blk.new w #[.slice none 0 0] 36).alloc (.cells #[.int .i64 0] 24)
  have be := Blk.new (w.alloc (.cells #[.slice none 0 0] 36)) #[.int .i64 0] 24
  simp only [World.size_alloc] at be
  refine (HO.out _ k0).mono ?_
  rintro e w1 ⟨⟨v1, rfl, r1, f1⟩, k1⟩
  clear r1 f1
  replace bo := bo.keeps k1 (by simp)
  replace be := be.keeps k1 (by simp)
  replace k0 := k0.then k1
  clear k1
  go_wp2_with (go_at_call 60; refine (ways_any _).mono ?_; rintro e w2 ⟨rfl, k2⟩)
  have k2' := k0.then k2
  have hs12' : Hid (w.heap.size + 2 ≤ w2.heap.size) := by have := (be.keeps k2 (by simp)).lt; exact (by omega : w.heap.size + 2 ≤ w2.heap.size)
  replace bo := bo.keeps k2 (by simp)
  replace be := be.keeps k2 (by simp)
  go_wp2_with fail
  refine (HH.out _ k2').mono ?_
  rintro e w3 ⟨v3, rfl, own3, k3⟩
  obtain ⟨a3, c3, rfl⟩ := own_form own3
  replace bo := bo.keeps k3 (by simp)
  replace be := be.keeps k3 (by simp)
  have hs2 := k2'.size
  have lbe := be.lt
  have hs12 : w.heap.size + 2 ≤ w2.heap.size := hs12'.out
  replace k0 := k2'.then k3
  clear k2 k2' k3
  obtain ⟨e0, e1⟩ := be.one
  obtain ⟨o0, o1⟩ := bo.one
  have R1 := Lib.hid (own_reads own3)
  have F1 := Lib.hid (own_freshB own3)
  have hlen : (halvesL l).length = (halvesL l).length := rfl
  clear own3 hlen
  generalize (halvesL l).length = N at *
  go_wp2_with fail
  refine leaves_cons (f := 35) (args := #[.pointer (some ⟨w.heap.size + 1, 0, none⟩), .func (.func 66) #[] #[.pointer (some ⟨w.heap.size, 0, none⟩)]]) (by simp) (by simp [go_sem]) ?_
  refine (wcaught_idle _ _ _).mono ?_
  rintro e u' w'' ⟨rfl, rfl, rfl⟩
  refine ⟨.tuple #[.slice a3 N c3, .int .i64 0], by simp only [results, Tryz.results43]; go_simp, ?_⟩
  refine ⟨_, rfl, R1.out.keepsS (S := [w.heap.size, w.heap.size + 1]) (by repeat (first | exact Keeps.refl _ _ | refine Keeps.setCell' (.inr (by simp)) ?_)) (fun ad m c he _ hm => ?_), F1.out.mono hs2, by repeat (first | exact k0 | refine Keeps.setCell' (.inl (by dsimp only; omega)) ?_)⟩
  have := F1.out ad m c he
  simp at hm
  omega

set_option maxRecDepth 100000 in
set_option maxHeartbeats 2000000 in
theorem described_no (v : Value) (l : List Int) (way : Int) (w : World) (hv : RdI .i64 w v l) (hn : l.length ≤ 1000000) (ht : okW l = false) : Calls Tryz.prog 43 #[v, .int .i64 way] w (BtEnd w [] 12) := by
  have hmf : ∀ (fn : Fn) (first cap : Array Value) (w : World), (Instr.makeFunc fn first cap).run Tryz.prog w = .ok (.func fn first cap) w := fun _ _ _ _ => rfl
  have HO := Lib.hid (fun w' (k : Keeps w w' []) => (wtree_any v l w' (hv.keeps k) hn).mono fun e w'' h => (⟨h.2.2 ht, h.1⟩ : e = .panicked [raisedBy 12 false] ∧ Keeps w' w'' []))
  obtain ⟨A0, n, cp0, rfl, -, -⟩ := hv.form
  clear hv ht
  go_enter_defers Tryz.func43, Tryz.ntmps43
  go_wp2_with fail
  have k0 : Keeps w ((w.alloc (.cells #[.slice none 0 0] 36)).alloc (.cells #[.int .i64 0] 24)) [] := ((Keeps.refl w []).alloc _).alloc _
  have bo := (Blk.new w #[.slice none 0 0] 36).alloc (.cells #[.int .i64 0] 24)
  have be := Blk.new (w.alloc (.cells #[.slice none 0 0] 36)) #[.int .i64 0] 24
  simp only [World.size_alloc] at be
  refine (HO.out _ k0).mono ?_
  rintro e w1 ⟨rfl, k1⟩
  replace bo := bo.keeps k1 (by simp)
  replace be := be.keeps k1 (by simp)
  replace k0 := k0.then k1
  clear k1
  obtain ⟨e0, e1⟩ := be.one
  obtain ⟨o0, o1⟩ := bo.one
  go_wp2_with fail
  refine leaves_cons (f := 35) (args := #[.pointer (some ⟨w.heap.size + 1, 0, none⟩), .func (.func 66) #[] #[.pointer (some ⟨w.heap.size, 0, none⟩)]]) (by simp) (by simp [go_sem]) ?_
  refine (wcaught_desc _ _ 12 _ _ _ _ [] _ be bo (by omega)).mono ?_
  rintro e u' w'' ⟨rfl, rfl, rfl⟩
  refine ⟨.tuple #[.slice none 0 0, .int .i64 12], by simp only [results, Tryz.results43]; go_simp, ?_⟩
  refine ⟨_, rfl, .nil, .nil, ?_⟩
  exact Keeps.setCell' (.inl (by dsimp only; omega)) (Keeps.setCell' (.inl (by dsimp only; omega)) k0)

def halfOut (l : List Int) : List Int := if okW l then halvesL l else []

set_option maxRecDepth 100000 in
theorem packed_any (v : Value) (l : List Int) (w : World) (hv : RdI .i64 w v l) (hn : l.length ≤ 1000000) : Calls Tryz.prog 22 #[v] w (BtEnd w (halfOut l) (treeErr l)) := by
  have hd : Calls Tryz.prog 43 #[v, .int .i64 0] w (BtEnd w (halfOut l) (treeErr l)) := by
    cases ht : okW l with
    | true => simpa [halfOut, treeErr, ht] using described_yes v l w hv hn ht
    | false => simpa [halfOut, treeErr, ht] using described_no v l 0 w hv hn ht
  have HD := Lib.hid hd
  obtain ⟨A0, n, cp0, rfl, -, -⟩ := hv.form
  clear hv hd
  generalize treeErr l = E at *
  go_enter Tryz.func22, Tryz.ntmps22
  go_wp2_with (refine HD.out.mono ?_; rintro e w1 ⟨v1, rfl, r1, f1, k1⟩)
  exact bodyPost_ret (v := .tuple #[v1, .int .i64 E]) (by simp [results, Tryz.results22]) rfl ⟨v1, rfl, r1, f1, k1⟩
end

section
set_option linter.unusedVariables false
set_option linter.unusedSimpArgs false
set_option linter.unusedSectionVars false
open Go.RowKit
end

section
set_option linter.unusedVariables false
set_option linter.unusedSimpArgs false
set_option linter.unusedSectionVars false
open Go.RowKit

theorem no_any (n : Int) (w : World) : Calls Tryz.prog 16 #[.int .i64 n] w fun e w' => e = .returned (.int .i64 n) ∧ w' = w := by
  go_enter Tryz.func16, Tryz.ntmps16
  go_wp2
  go_ret
  exact ⟨rfl, rfl⟩

set_option maxHeartbeats 1000000 in
theorem same_yes (v1 v2 : Value) (l : List Int) (w : World) (h1 : RdI .i64 w v1 l) (h2 : RdI .i64 w v2 l) (hn : l.length ≤ 1000000) :
    Calls Tryz.prog 15 #[v1, v2] w fun e w' => e = .returned (.bool true) ∧ ∃ m, w' = w.drewN m := by
  obtain ⟨A1, n, c1, rfl, hn1, -⟩ := h1.form
  obtain ⟨A2, n2, c2, rfl, hn2, -⟩ := h2.form
  obtain rfl : n2 = n := by omega
  have H1 := Lib.hid h1
  have H2 := Lib.hid h2
  have HN := Lib.hid hn1
  have hn' : n2 ≤ 1000000 := by omega
  clear h1 h2 hn1 hn2 hn
  go_enter Tryz.func15, Tryz.ntmps15
  go_wp2_with fail
  go_loopw [5] (fun i wr => ∃ k nd : Nat, k ≤ n2 ∧ i = .int .i64 k ∧ wr = w.drewN nd) (fun i _ => n2 - (intOf i).toNat)
  case atStart => exact ⟨0, 0, Nat.zero_le _, rfl, rfl⟩
  case round =>
    obtain ⟨k, nd, hk, rfl, rfl⟩ := hrel
    by_cases hlt : k < n2
    · obtain ⟨x, hx⟩ : ∃ x, l[k]? = some x := ⟨_, List.getElem?_eq_getElem (by have := HN.out; omega)⟩
      obtain ⟨b, o, rfl, hb, hc⟩ := H1.out.at hx
      obtain ⟨b2, o2, rfl, hb2, hc2⟩ := H2.out.at hx
      have hcap := H1.out.cap
      have hcap2 := H2.out.cap
      have hkn : (k : Int) < (n2 : Int) := by omega
      have hk0 : (0 : Int) ≤ (k : Int) := Int.natCast_nonneg _
      clear hx
      go_wp2_with fail
      go_quiet (fail)
      go_wp2_with fail
      go_roundw
      case rel => exact ⟨k + 1, nd + nq, by omega, by go_num, rfl⟩
      case measure => simp [intOf]; omega
    · have : k = n2 := by omega
      subst this
      go_wp2_with fail
      go_ret
      exact ⟨rfl, _, rfl⟩

theorem Blk.newAt {w : World} {cs : Array Value} {T : TypeId} {b : Nat} (h : w.heap.size = b) : Blk (w.alloc (.cells cs T)) b cs T := h ▸ Blk.new w cs T

theorem blk_nums {w : World} {b : Nat} {l : List Int} {k : IntKind} {T : TypeId} (h : Blk w b (l.map (Value.int k)).toArray T) : RdI k w (.slice (some ⟨b, 0, none⟩) l.length l.length) l :=
  ⟨_, _, _, rfl, rfl, (fun h => by cases h), fun h0 => ⟨Nat.le_refl _, b, 0, rfl, h.lt, fun i x hx => by
    rw [Nat.zero_add, h.cell]
    simp [hx]⟩⟩

theorem blk_one {w : World} {b : Nat} {x : Int} {k : IntKind} {T : TypeId} (h : Blk w b #[.int k x] T) : RdI k w (.slice (some ⟨b, 0, none⟩) 1 1) [x] := blk_nums (l := [x]) h
theorem blk_two {w : World} {b : Nat} {x y : Int} {k : IntKind} {T : TypeId} (h : Blk w b #[.int k x, .int k y] T) : RdI k w (.slice (some ⟨b, 0, none⟩) 2 2) [x, y] := blk_nums (l := [x, y]) h
theorem blk_three {w : World} {b : Nat} {x y z : Int} {k : IntKind} {T : TypeId} (h : Blk w b #[.int k x, .int k y, .int k z] T) : RdI k w (.slice (some ⟨b, 0, none⟩) 3 3) [x, y, z] := blk_nums (l := [x, y, z]) h
theorem blk_four {w : World} {b : Nat} {x y z u : Int} {k : IntKind} {T : TypeId} (h : Blk w b #[.int k x, .int k y, .int k z, .int k u] T) : RdI k w (.slice (some ⟨b, 0, none⟩) 4 4) [x, y, z, u] := blk_nums (l := [x, y, z, u]) h

/-- How gets ends. -/
def GetEnd (w : World) (out : List Int) (left n : Int) (e : Ending) (w' : World) : Prop := ∃ r, e = .returned (.tuple #[r, .int .i64 left, .int .i64 n]) ∧ RdI .i64 w' r out ∧ Keeps w w' []

set_option maxRecDepth 100000 in
theorem gets_of (v : Value) (B out : List Int) (n : Int) (k' : Nat) (w : World) (hv : RdI .u8 w v B) (hn : B.length ≤ 1000000) (hx : ∀ x ∈ B, 0 ≤ x ∧ x ≤ 255)
    (hdec : ∀ W p v', Cur W p v' B 0 → Calls Tryz.prog 29 #[.pointer (some ⟨p, 0, none⟩)] W (DecEnd W p v' B out n k')) :
    Calls Tryz.prog 33 #[v] w (GetEnd w out ((B.length : Int) - (k' : Int)) n) := by
  have HN := Lib.hid (new_any v B w hv hn hx)
  have HD := Lib.hid hdec
  have hl : Hid (∀ W p v', Cur W p v' B k' → Calls Tryz.prog 51 #[.pointer (some ⟨p, 0, none⟩)] W fun e w' => e = .returned (.int .i64 ((B.length : Int) - (k' : Int))) ∧ ∃ m, w' = W.drewN m) := fun W p v' h => left_any p k' v' B W h
  obtain ⟨ad, m, c, rfl, -, -⟩ := hv.form
  clear hv hdec
  generalize (B.length : Int) - (k' : Int) = LF at *
  go_enter Tryz.func33, Tryz.ntmps33
  go_wp2_with (first
    | (go_at_call 27; go_loud (refine HN.out.mono ?_; rintro e w1 ⟨p, v1, rfl, hp, cur1, k1⟩))
    | (go_at_call 29; go_loud (refine (HD.out _ _ _ cur1).mono ?_; rintro e w2 ⟨r2, rfl, rd2, -, cur2, k2⟩))
    | (go_at_call 51; go_loud (refine (hl.out _ _ _ cur2).mono ?_; rintro e w3 ⟨rfl, mq, rfl⟩))
    | (go_at_call 16; go_loud (refine (no_any _ _).mono ?_; rintro e w4 ⟨rfl, rfl⟩)))
  exact bodyPost_ret (v := .tuple #[r2, .int .i64 LF, .int .i64 n]) (by simp [results, Tryz.results33]) rfl ⟨_, rfl, rd2.drewN mq, (k1.trans k2 (fun j hj hlt => by simp at hj; omega)).drewN mq⟩
end

section
set_option linter.unusedVariables false
set_option linter.unusedSimpArgs false
set_option linter.unusedSectionVars false
open Go.RowKit

/-- The tree of weights, with a position; or an error. -/
def finW (L : List Int) (K : Nat) : Except Int (List Int × Nat) := if okW L = true then .ok (tOf L, K) else .error 12
/-- The tree that a description at k says, and the position behind it; or an error. -/
def getW (B : List Int) (k : Nat) : Except Int (List Int × Nat) :=
  if numE B k 255 ≠ 0 then .error (numE B k 255) else
  if numX B k 255 = 0 then .error 12 else
  if B.length ≤ numK B k 255 then .error 3 else
  if byteX B (numK B k 255) = 0 then
    (if halvE B (numK B k 255 + 1) (numX B k 255) ≠ 0 then .error (halvE B (numK B k 255 + 1) (numX B k 255)) else
      finW (halvX B (numK B k 255 + 1) (numX B k 255)) (bytesK B (numK B k 255 + 1) (((numX B k 255 + 1) / 2 : Nat) : Int)))
  else if byteX B (numK B k 255) = 1 then
    (match (codedR B (numK B k 255 + 1) (numX B k 255)).1 with
      | .error n => .error n
      | .ok L => finW L (codedR B (numK B k 255 + 1) (numX B k 255)).2)
  else .error 12

theorem flowG_len {c : Nat → Cel} : ∀ {k : Nat} {R : List Bool} {now other : Nat} {out o : List Int}, flowG c k R now other out = .ok o → o.length = out.length + k
  | 0, R, now, other, out, o, h => by
    unfold flowG at h
    split at h
    · injection h with h
      rw [← h]; rfl
    · cases h
  | k + 1, R, now, other, out, o, h => by
    unfold flowG at h
    split at h
    · split at h
      · cases h
      · have := flowG_len h
        simp only [List.length_append, List.length_singleton] at this
        omega
    · have := flowG_len h
      simp only [List.length_append, List.length_singleton] at this
      omega
theorem flowD_len {g : Int} {norm B o : List Int} {n : Nat} (h : flowD g norm B n = .ok o) : o.length = n := by
  unfold flowD at h
  split at h
  · cases h
  · split at h
    · cases h
    · unfold flowP at h
      split at h
      · cases h
      · split at h
        · cases h
        · have := flowG_len h
          simpa using this
theorem codedR_len {B o : List Int} {k m : Nat} (h : (codedR B k m).1 = .ok o) : o.length = m := by
  unfold codedR at h
  split at h
  · cases h
  · split at h
    · cases h
    · split at h
      · cases h
      · exact flowD_len h
theorem numX_most {B : List Int} {k M : Nat} (h : numE B k M = 0) : numX B k M ≤ M := by
  unfold numX
  rw [if_pos h]
  unfold numE at h
  split at h
  · cases h
  · omega
/-- How Decode ends, in one word. -/
def DecAll (w : World) (p : Nat) (v : Value) (B : List Int) (Z : Except Int (List Int × Nat)) (e : Ending) (w' : World) : Prop :=
  match Z with
  | .ok (L, K) => DecEnd w p v B L 0 K e w'
  | .error n => ∃ K, DecEnd w p v B [] n K e w'
theorem decode_any (p k : Nat) (v : Value) (B : List Int) (w : World) (hc : Cur w p v B k) :
    Calls Tryz.prog 29 #[.pointer (some ⟨p, 0, none⟩)] w (DecAll w p v B (getW B k)) := by
  unfold getW
  by_cases h1 : numE B k 255 = 0
  · rw [if_neg (by simpa using h1)]
    by_cases h2 : numX B k 255 = 0
    · rw [if_pos h2]
      exact (decode_zero p k v B w hc h1 h2).mono fun e w' h => ⟨_, h⟩
    · rw [if_neg h2]
      have hX : 0 < numX B k 255 := by omega
      by_cases h3 : B.length ≤ numK B k 255
      · rw [if_pos h3]
        have hb : byteE B (numK B k 255) = 3 := by unfold byteE; rw [if_neg (by omega)]
        have := decode_byte p k v B w hc h1 hX (by rw [hb]; decide)
        rw [hb] at this
        exact this.mono fun e w' h => ⟨_, h⟩
      · rw [if_neg h3]
        have hb : byteE B (numK B k 255) = 0 := by unfold byteE; rw [if_pos (by omega)]
        have hk : byteK B (numK B k 255) = numK B k 255 + 1 := by unfold byteK; rw [if_pos (by omega)]
        by_cases h4 : byteX B (numK B k 255) = 0
        · rw [if_pos h4]
          by_cases h5 : halvE B (numK B k 255 + 1) (numX B k 255) = 0
          · rw [if_neg (by simpa using h5)]
            unfold finW
            cases ht : okW (halvX B (numK B k 255 + 1) (numX B k 255)) with
            | true =>
              rw [if_pos rfl]
              have := decode_yes p k v B w hc h1 hX hb h4 (by rw [hk]; exact h5) (by rw [hk]; exact ht)
              rw [hk] at this
              exact this
            | false =>
              rw [if_neg (by simp)]
              have := decode_tno p k v B w hc h1 hX hb h4 (by rw [hk]; exact h5) (by rw [hk]; exact ht)
              exact this.mono fun e w' h => ⟨_, h⟩
          · rw [if_pos h5]
            have := decode_halv p k v B w hc h1 hX hb h4 (by rw [hk]; exact h5)
            rw [hk] at this
            exact this.mono fun e w' h => ⟨_, h⟩
        · rw [if_neg h4]
          by_cases h6 : byteX B (numK B k 255) = 1
          · rw [if_pos h6]
            cases hh : (codedR B (numK B k 255 + 1) (numX B k 255)).1 with
            | error n =>
              have := decode_cod p k v B w hc h1 hX hb h6 (by rw [hk]; exact hh)
              exact this.mono fun e w' h => ⟨_, h⟩
            | ok L =>
              have hl := codedR_len hh
              have hm := numX_most h1
              simp only
              unfold finW
              cases ht : okW L with
              | true =>
                rw [if_pos rfl]
                have := decode_cyes p k v B w hc h1 hX hb h6 (by rw [hk]; exact hh) (by omega) ht
                rw [hk] at this
                exact this
              | false =>
                rw [if_neg (by simp)]
                have := decode_cno p k v B w hc h1 hX hb h6 (by rw [hk]; exact hh) (by omega) ht
                exact this.mono fun e w' h => ⟨_, h⟩
          · rw [if_neg h6]
            have hx := byteX_bound hc.byte (numK B k 255)
            have := decode_way p k v B w hc h1 hX hb (by omega)
            exact this.mono fun e w' h => ⟨_, h⟩
  · rw [if_pos h1]
    exact (decode_num p k v B w hc h1).mono fun e w' h => ⟨_, h⟩

/-! Without a cursor. -/
end

section
set_option linter.unusedVariables false
set_option linter.unusedSimpArgs false

/-- One more of c. -/
def upC (h : List Int) (c : Int) : List Int := h.set c.toNat (h.getD c.toNat 0 + 1)
/-- How often each weight occurs. -/
def cntW (l : List Int) : List Int := l.foldl upC (List.replicate 12 0)
/-- All weights are alike. -/
def oneW (l : List Int) : Bool := (cntW l).any (fun n => decide (n = (l.length : Int)))
/-- The counts that are made to a table. -/
def addW (l : List Int) : List Int := if oneW l = true then upC (cntW l) ((l.getD 0 0 + 1) % 12) else cntW l
def nmW (l : List Int) : List Int := normF (addW l) 64 (sumZ (addW l))
def flW (l : List Int) : List Int := flowE 6 (nmW l) (l.map Int.toNat)
def codedE (l : List Int) : List Int := varI l.length ++ [1] ++ descE 6 (nmW l) ++ varI (flW l).length ++ flW l

theorem upC_len (h : List Int) (c : Int) : (upC h c).length = h.length := by simp [upC]
theorem cntW_snoc (l : List Int) (x : Int) : cntW (l ++ [x]) = upC (cntW l) x := by simp [cntW]
theorem upC_get (h : List Int) (c : Int) (i : Nat) (hc : c.toNat < h.length) : (upC h c).getD i 0 = if i = c.toNat then h.getD c.toNat 0 + 1 else h.getD i 0 := by
  unfold upC
  rw [getD_set _ _ _ _ hc]
theorem upC_sum (h : List Int) (c : Int) (hc : c.toNat < h.length) : sumZ (upC h c) = sumZ h + 1 := by
  unfold upC
  rw [sumZ_set _ _ _ hc]
  omega
/-- A row of counts. -/
structure CntOk (h : List Int) (n : Nat) : Prop where
  len : h.length = 12
  low : ∀ i, 0 ≤ h.getD i 0
  sum : sumZ h = (n : Int)
theorem CntOk.up {h : List Int} {n : Nat} (k : CntOk h n) {c : Int} (h0 : 0 ≤ c) (h1 : c ≤ 11) : CntOk (upC h c) (n + 1) := by
  have hc : c.toNat < h.length := by rw [k.len]; omega
  refine ⟨by rw [upC_len, k.len], fun i => ?_, by rw [upC_sum _ _ hc, k.sum]; omega⟩
  rw [upC_get _ _ _ hc]
  have a := k.low c.toNat
  have b := k.low i
  split <;> omega
theorem CntOk.zero : CntOk (List.replicate 12 0) 0 := ⟨by simp, fun i => by
  rw [List.getD_eq_getElem?_getD, List.getElem?_replicate]
  split <;> simp, by decide⟩
theorem cnt_fold : ∀ (l : List Int) (h : List Int) (n : Nat), (∀ x ∈ l, 0 ≤ x ∧ x ≤ 11) → CntOk h n → CntOk (l.foldl upC h) (n + l.length) ∧ ∀ i, h.getD i 0 ≤ (l.foldl upC h).getD i 0 ∧ (((i : Nat) : Int) ∈ l → h.getD i 0 < (l.foldl upC h).getD i 0)
  | [], h, n, _, k => ⟨k, fun i => ⟨Int.le_refl _, fun hm => by cases hm⟩⟩
  | x :: l, h, n, hl, k => by
    obtain ⟨h0, h1⟩ := hl x (by simp)
    have ku := k.up h0 h1
    obtain ⟨a, b⟩ := cnt_fold l (upC h x) (n + 1) (fun y hy => hl y (by simp [hy])) ku
    have hx : x.toNat < h.length := by rw [k.len]; omega
    refine ⟨by rw [List.length_cons, show n + (l.length + 1) = n + 1 + l.length by omega]; exact a, fun i => ?_⟩
    obtain ⟨b1, b2⟩ := b i
    have e := upC_get h x i hx
    have hge : h.getD i 0 ≤ (upC h x).getD i 0 := by
      rw [e]
      split
      · rename_i he
        rw [he]; omega
      · exact Int.le_refl _
    refine ⟨Int.le_trans hge b1, fun hm => ?_⟩
    rcases List.mem_cons.1 hm with he | hm
    · have : i = x.toNat := by omega
      rw [if_pos this] at e
      rw [← this] at e
      show h.getD i 0 < (l.foldl upC (upC h x)).getD i 0
      omega
    · have := b2 hm
      show h.getD i 0 < (l.foldl upC (upC h x)).getD i 0
      omega
theorem cntW_ok {l : List Int} (hl : ∀ x ∈ l, 0 ≤ x ∧ x ≤ 11) : CntOk (cntW l) l.length ∧ ∀ i : Nat, ((i : Nat) : Int) ∈ l → 0 < (cntW l).getD i 0 := by
  obtain ⟨a, b⟩ := cnt_fold l _ 0 hl CntOk.zero
  rw [Nat.zero_add] at a
  refine ⟨a, fun i hi => ?_⟩
  have := (b i).2 hi
  have h0 := CntOk.zero.low i
  exact Int.lt_of_le_of_lt h0 this
theorem addW_ok {l : List Int} (hl : ∀ x ∈ l, 0 ≤ x ∧ x ≤ 11) : ∃ n, l.length ≤ n ∧ n ≤ l.length + 1 ∧ CntOk (addW l) n ∧ ∀ i : Nat, ((i : Nat) : Int) ∈ l → 0 < (addW l).getD i 0 := by
  obtain ⟨a, b⟩ := cntW_ok hl
  unfold addW
  split
  · have h0 : 0 ≤ (l.getD 0 0 + 1) % 12 := by omega
    have h1 : (l.getD 0 0 + 1) % 12 ≤ 11 := by omega
    refine ⟨l.length + 1, by omega, by omega, a.up h0 h1, fun i hi => ?_⟩
    have hc : ((l.getD 0 0 + 1) % 12).toNat < (cntW l).length := by rw [a.len]; omega
    rw [upC_get _ _ _ hc]
    have := b i hi
    have := a.low ((l.getD 0 0 + 1) % 12).toNat
    split <;> omega
  · exact ⟨l.length, by omega, by omega, a, b⟩
theorem posN_some : ∀ (l : List Int) (i : Nat), 0 < l.getD i 0 → 0 < posN l
  | [], i, h => by simp at h
  | c :: l, 0, h => by
    have := (posN_bound l).1
    have h' : 0 < c := h
    rw [posN, if_pos h']
    omega
  | c :: l, i + 1, h => by
    have h' : 0 < l.getD i 0 := by simpa using h
    have := posN_some l i h'
    rw [posN]
    split <;> omega

/-- The table that is made of the counts. -/
theorem nmW_ok {l : List Int} (hl : ∀ x ∈ l, 0 ≤ x ∧ x ≤ 11) (h0 : 0 < l.length) : 
    TblOk 6 (nmW l) ∧ (nmW l).getD ((nmW l).length - 1) 0 ≠ 0 ∧ (nmW l).length = usedN (addW l) 12 ∧ (nmW l).length ≤ 12 ∧ symsOk (nmW l) (l.map Int.toNat) ∧ (addW l).length = 12 ∧ 0 < sumZ (addW l) ∧ sumZ (addW l) ≤ (l.length : Int) + 1 ∧ (∀ x ∈ addW l, 0 ≤ x) ∧ 0 < posN (addW l) ∧ posN (addW l) ≤ 64 := by
  obtain ⟨n, n1, n2, k, m⟩ := addW_ok hl
  have hlen := k.len
  have hpb := posN_bound (addW l)
  have hx0 : ∃ x, x ∈ l := ⟨_, List.getElem_mem h0⟩
  obtain ⟨x, hx⟩ := hx0
  have hxb := hl x hx
  have hp0 : 0 < posN (addW l) := posN_some _ x.toNat (m _ (by rw [Int.toNat_of_nonneg hxb.1]; exact hx))
  have hp : posN (addW l) ≤ 64 := by omega
  have hs := k.sum
  have hu := usedN_pos hp0
  have hT : 0 < sumZ (addW l) := by omega
  have hpos : ∀ i, i < (addW l).length → 0 ≤ (addW l).getD i 0 := fun i _ => k.low i
  obtain ⟨t1, t2, t3, t4⟩ := normF_ok (S := 64) (log := 6) (C := addW l) (T := sumZ (addW l)) (by decide) (by decide) hT rfl hpos hp hu (by omega)
  have hul := usedN_le (addW l) (addW l).length
  refine ⟨t1, t2, by rw [← hlen]; exact t3, ?_, fun s hs' => ?_, hlen, hT, by omega, fun y hy => ?_, hp0, hp⟩
  · show (normF _ _ _).length ≤ 12
    rw [t3]; omega
  · obtain ⟨y, hy, rfl⟩ := List.mem_map.1 hs'
    have hyb := hl y hy
    have := t4 y.toNat (by omega) (m _ (by rw [Int.toNat_of_nonneg hyb.1]; exact hy))
    exact this
  · obtain ⟨j, hj⟩ := List.getElem?_of_mem hy
    have := k.low j
    rw [List.getD_eq_getElem?_getD, hj] at this
    exact this
theorem okN_of {g : Nat} {norm : List Int} (h : TblOk g norm) (hl : norm.getD (norm.length - 1) 0 ≠ 0) : okN (g : Int) norm 256 9 = true := by
  have := h.g9
  have := h.len
  exact decide_eq_true ⟨by omega, by omega, h.pos, by omega, hl, h.low, by rw [h.sum]; simp⟩
theorem last_of {l : List Int} (h0 : 0 < l.length) (hl : l.getD (l.length - 1) 0 ≠ 0) : l.getLast? ≠ some 0 := by
  rw [List.getLast?_eq_getElem?]
  intro h
  rw [List.getD_eq_getElem?_getD, h] at hl
  exact hl rfl
theorem descE_len {g : Nat} {norm : List Int} (h : TblOk g norm) (hn : norm.length ≤ 12) : (descE g norm).length ≤ 200 := by
  have h1 := packB_len (descL g norm)
  have h9 : 2 ^ g ≤ 2 ^ 9 := Nat.pow_le_pow_right (by decide) h.g9
  rw [show (2 : Nat) ^ 9 = 512 by decide] at h9
  have h2 := normsE_len (f := norm.length) (l := norm) h9
  unfold descE descL at *
  rw [List.length_append, bitsN_len] at h1
  omega
theorem flowB_len {g : Nat} {norm : List Int} (h : TblOk g norm) {l : List Nat} (hl : symsOk norm l) : (flowB g norm l).length ≤ 9 * l.length + 18 := by
  have h1 := encG_bits h hl
  have h9 := h.g9
  unfold flowB
  split
  all_goals (try split)
  all_goals simp only [List.length_append, bitsN_len, List.length_nil, List.append_assoc]
  all_goals omega

theorem flW_len {l : List Int} (hl : ∀ x ∈ l, 0 ≤ x ∧ x ≤ 11) (h0 : 0 < l.length) (h255 : l.length ≤ 255) : (flW l).length ≤ 2400 := by
  obtain ⟨t1, -, -, -, t5, -⟩ := nmW_ok hl h0
  have h1 := packB_len (flowB 6 (nmW l) (l.map Int.toNat) ++ [true])
  have h2 := flowB_len t1 t5
  rw [List.length_append, List.length_singleton] at h1
  rw [List.length_map] at h2
  unfold flW flowE
  omega
theorem drop_app {B L Z : List Int} {k : Nat} (h : B.drop k = L ++ Z) : B.drop (k + L.length) = Z := by
  rw [← List.drop_drop, h]; simp
theorem bytes_read {B L Z : List Int} {k : Nat} (h : B.drop k = L ++ Z) (hL : 0 < L.length) : bytesE B k (L.length : Int) = 0 ∧ bytesX B k (L.length : Int) = L ∧ bytesK B k (L.length : Int) = k + L.length := by
  have hb : L.length + Z.length = B.length - k := by rw [← List.length_append, ← h, List.length_drop]
  have hE : bytesE B k (L.length : Int) = 0 := by unfold bytesE; rw [if_neg (by omega), if_neg (by omega)]
  unfold bytesX bytesK
  rw [if_pos hE, if_pos hE, Int.toNat_natCast, h, List.take_left' rfl]
  exact ⟨hE, rfl, rfl⟩
theorem map_cast {l : List Int} (hl : ∀ x ∈ l, 0 ≤ x ∧ x ≤ 11) : (l.map Int.toNat).map (fun (s : Nat) => (s : Int)) = l := by
  rw [List.map_map]
  conv => rhs; rw [← List.map_id l]
  refine List.map_congr_left (fun x hx => ?_)
  have := (hl x hx).1
  simp only [Function.comp, id]
  omega
theorem flowE_pos (g : Nat) (norm : List Int) (l : List Nat) : 0 < (flowE g norm l).length := by
  have h := (mark_top (L := flowB g norm l)).1
  unfold flowE
  by_cases h0 : 0 < (packB (flowB g norm l ++ [true])).length
  · exact h0
  · exfalso
    have : packB (flowB g norm l ++ [true]) = [] := List.eq_nil_of_length_eq_zero (by omega)
    rw [this] at h
    exact h rfl
/-- What stands behind the first two parts of a description in format 1 is read back. -/
theorem codedR_read {B l Z : List Int} {k : Nat} (hl : ∀ x ∈ l, 0 ≤ x ∧ x ≤ 11) (h0 : 0 < l.length) (h255 : l.length ≤ 255) (h : B.drop k = descE 6 (nmW l) ++ (varI (flW l).length ++ (flW l ++ Z))) :
    codedR B k l.length = (.ok l, k + (descE 6 (nmW l)).length + (varI (flW l).length).length + (flW l).length) := by
  obtain ⟨t1, t2, t3, t4, t5, -⟩ := nmW_ok hl h0
  have hdl := descE_len t1 t4
  have hfl := flW_len hl h0 h255
  have hd : descP ((B.drop k).take 1024) 12 6 = .ok (6, nmW l, (descE 6 (nmW l)).length) := by
    rw [h, List.take_append, List.take_of_length_le (by omega)]
    exact descP_descE (by decide) (by decide) (Nat.le_refl 6) t4 t1.low t1.sum (last_of t1.pos t2)
  have h1 := drop_app h
  obtain ⟨n1, n2, n3⟩ := num_read (M := 131072) (by omega) (by omega) h1
  have h2 := drop_app h1
  obtain ⟨b1, b2, b3⟩ := bytes_read h2 (flowE_pos _ _ _)
  unfold codedR
  rw [hd]
  simp only
  rw [n1, n2, n3, if_neg (by simp), b1, if_neg (by simp), b2, b3]
  have hf := flowD_flowE t1 (okN_of t1 t2) t5
  rw [List.length_map, map_cast hl] at hf
  change flowD (6 : Int) (nmW l) (flW l) l.length = _ at hf
  show (flowD (6 : Int) (nmW l) (flW l) l.length, _) = _
  rw [hf]
theorem okW_len {l : List Int} (h : okW l = true) : 0 < l.length ∧ l.length ≤ 255 := by
  simp only [okW, lenW, Bool.and_eq_true] at h
  simp at h
  omega
/-- A description in format 1 is read back, whatever follows. -/
theorem getW_coded {B l Z : List Int} {k : Nat} (hw : okW l = true) (h : B.drop k = codedE l ++ Z) : getW B k = .ok (tOf l, k + (codedE l).length) := by
  have hl := okW_bound hw
  obtain ⟨h0, h255⟩ := okW_len hw
  have e : codedE l ++ Z = varI l.length ++ (1 :: (descE 6 (nmW l) ++ (varI (flW l).length ++ (flW l ++ Z)))) := by simp [codedE]
  have elen : (codedE l).length = (varI l.length).length + 1 + ((descE 6 (nmW l)).length + (varI (flW l).length).length + (flW l).length) := by simp [codedE]; omega
  rw [e] at h
  obtain ⟨n1, n2, n3⟩ := num_read (M := 255) (by omega) h255 h
  obtain ⟨x1, x2, x3⟩ := byteX_drop (drop_app h)
  have hc := codedR_read hl h0 h255 x3
  unfold getW
  rw [n2, if_neg (by simp), n1, if_neg (by omega), n3, if_neg (by omega), x2, if_neg (by decide), if_pos rfl, hc]
  simp only
  unfold finW
  rw [if_pos hw, elen]
  congr 2
  omega
/-- A description in format 0 is read back, whatever follows. -/
theorem nibX_nibF : ∀ l : List Int, (∀ x ∈ l, 0 ≤ x ∧ x ≤ 11) → (nibX (nibF l)).take l.length = l ∧ ((nibX (nibF l))[l.length]?).getD 0 = 0
  | [], _ => by simp [nibF, nibX]
  | [a], h => by
    have := h a (by simp)
    have e1 : a % 16 = a := by omega
    have e2 : a / 16 = 0 := by omega
    simp [nibF, nibX, e1, e2]
  | a :: b :: l, h => by
    have h1 := h a (by simp)
    have h2 := h b (by simp)
    obtain ⟨i1, i2⟩ := nibX_nibF l (fun x hx => h x (by simp [hx]))
    have e1 : (a + 16 * b) % 16 = a := by omega
    have e2 : (a + 16 * b) / 16 = b := by omega
    simp only [nibF, nibX, e1, e2, List.length_cons]
    refine ⟨by simp [i1], by simpa using i2⟩
theorem getW_halves {B l Z : List Int} {k : Nat} (hw : okW l = true) (h : B.drop k = halvesL l ++ Z) : getW B k = .ok (tOf l, k + (halvesL l).length) := by
  have hl := okW_bound hw
  obtain ⟨h0, h255⟩ := okW_len hw
  have e : halvesL l ++ Z = varI l.length ++ (0 :: (nibF l ++ Z)) := by simp [halvesL]
  have elen : (halvesL l).length = (varI l.length).length + 1 + (nibF l).length := by simp [halvesL]; omega
  rw [e] at h
  obtain ⟨n1, n2, n3⟩ := num_read (M := 255) (by omega) h255 h
  obtain ⟨x1, x2, x3⟩ := byteX_drop (drop_app h)
  have hnl := nib_len l
  obtain ⟨b1, b2, b3⟩ := bytes_read x3 (by omega)
  rw [hnl] at b1 b2 b3
  obtain ⟨i1, i2⟩ := nibX_nibF l hl
  have hE : halvE B (k + (varI l.length).length + 1) l.length = 0 := by
    unfold halvE
    rw [b1, if_neg (by simp), b2, i2, if_pos rfl]
  have hX : halvX B (k + (varI l.length).length + 1) l.length = l := by
    unfold halvX
    rw [b2, i1]
  unfold getW
  rw [n2, if_neg (by simp), n1, if_neg (by omega), n3, if_neg (by omega), x2, if_pos rfl, hE, if_neg (by simp), hX, b3]
  unfold finW
  rw [if_pos hw, elen, hnl]
  congr 2
  omega
end

end Go.Proofs.YtophgpnnjphnmaaGreat
