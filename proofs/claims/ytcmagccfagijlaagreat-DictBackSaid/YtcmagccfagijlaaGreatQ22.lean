/-
  Walks over package bitout: hold.add, hold.whole, Writer.Put.
  Walks over package bitout: Bytes, Close. (Printed by mkZc.py.)
-/
import Derived.Test.YtcmagccfagijlaaGreatQ3
import Derived.Test.YtcmagccfagijlaaGreatQ2
import Derived.Test.YtcmagccfagijlaaGreatQ14
import Derived.Test.YtcmagccfagijlaaGreatQ1
import Derived.Test.YtcmagccfagijlaaGreatQ10
import Derived.Deep.LoopGhost
import Derived.Test.YtcmagccfagijlaaGreatQ12
namespace Go.Proofs.YtcmagccfagijlaaGreat
set_option linter.unusedVariables false
set_option linter.unusedSimpArgs false
set_option linter.unusedSectionVars false
set_option maxRecDepth 100000
section
open Go.RowKit

def KQB (Q base : Nat) (w w' : World) : Prop := ∃ S,Keeps w w' S ∧ ∀ x ∈ S,x = Q ∨ (base ≤ x ∧ (w.heap.size ≤ x ∨ ∃ cs z,w.heap[x]? = some (.cells cs 5 z)))
theorem KQB.refl (Q base : Nat) (w : World) : KQB Q base w w := ⟨[],Keeps.refl w [],fun x h => by cases h⟩
theorem KQB.of {Q base : Nat} {w w' : World} {S : List Nat} (h : Keeps w w' S) (hS : ∀ x ∈ S,x = Q ∨ (base ≤ x ∧ (w.heap.size ≤ x ∨ ∃ cs z,w.heap[x]? = some (.cells cs 5 z)))) : KQB Q base w w' := ⟨S,h,hS⟩
theorem KQB.old {Q base : Nat} {w w' : World} (h : KQB Q base w w') : ∃ S,Keeps w w' S ∧ ∀ x ∈ S,x = Q ∨ base ≤ x := by
 obtain ⟨S,h1,h2⟩ := h
 exact ⟨S,h1,fun x hx => (h2 x hx).imp id (fun h => h.1)⟩
theorem KQB.trans {Q base : Nat} {w w' w'' : World} (h : KQB Q base w w') (k : KQB Q base w' w'') : KQB Q base w w'' := by
 obtain ⟨S,h1,h2⟩ := h
 obtain ⟨S',k1,k2⟩ := k
 refine ⟨S ++ S',(h1.mono (fun x hx => List.mem_append.2 (.inl hx))).trans (k1.mono (fun x hx => List.mem_append.2 (.inr hx))) (fun x hx _ => hx),fun x hx => ?_⟩
 by_cases hS : x ∈ S
 ·exact h2 x hS
 ·rcases List.mem_append.1 hx with h | h
  ·exact h2 x h
  ·rcases k2 x h with h | ⟨hb,h⟩
   ·exact .inl h
   ·by_cases hl : x < w.heap.size
    ·rcases h with h | ⟨cs,z,h⟩
     ·have := h1.size;omega
     ·exact .inr ⟨hb,.inr ⟨cs,z,(h1.block x hl hS).symm.trans h⟩⟩
    ·exact .inr ⟨hb,.inl (by omega)⟩
theorem KQB.then {Q base : Nat} {w w' w'' : World} (h : KQB Q base w w') (k : Keeps w' w'' []) : KQB Q base w w'' := h.trans ⟨[],k,fun x hx => by cases hx⟩
theorem KQB.size {Q base : Nat} {w w' : World} (h : KQB Q base w w') : w.heap.size ≤ w'.heap.size := by obtain ⟨S,h1,-⟩ := h;exact h1.size
theorem KQB.blkT {Q base b : Nat} {w w' : World} {cs : Array Value} {T : TypeId} (h : KQB Q base w w') (hb : Blk w b cs T) (h1 : b ≠ Q) (h2 : T ≠ 5) : Blk w' b cs T := by
 obtain ⟨S,h3,h4⟩ := h
 refine hb.keeps h3 (fun hm => ?_)
 rcases h4 b hm with h | ⟨-,h | ⟨cs',z,h⟩⟩
 ·exact h1 h
 ·have := hb.lt;omega
 ·have hb' : w.heap[b]? = some (.cells cs T (0,0)) := hb
  rw [hb'] at h
  injection h with h
  injection h with _ h _
  exact h2 h
theorem KQB.heap {Q base b : Nat} {w w' : World} {o : Obj} (h : KQB Q base w w') (hb : w.heap[b]? = some o) (h1 : b ≠ Q) (h2 : ∀ cs z,o ≠ .cells cs 5 z) : w'.heap[b]? = some o := by
 obtain ⟨S,h3,h4⟩ := h
 refine (h3.block b (Array.getElem?_eq_some_iff.1 hb).1 (fun hm => ?_)).trans hb
 rcases h4 b hm with h | ⟨-,h | ⟨cs',z,h⟩⟩
 ·exact h1 h
 ·have := (Array.getElem?_eq_some_iff.1 hb).1;omega
 ·rw [hb] at h
  injection h with h
  exact h2 _ _ h
theorem KQB.blk {Q base b : Nat} {w w' : World} {cs : Array Value} {T : TypeId} (h : KQB Q base w w') (hb : Blk w b cs T) (h1 : b ≠ Q) (h2 : b < base) : Blk w' b cs T := by
 obtain ⟨S,h3,h4⟩ := h.old
 exact hb.keeps h3 (fun hm => by rcases h4 b hm with h | h <;> omega)
theorem KQB.low {Q base : Nat} {w0 w w' : World} (h : KQB Q base w w') (k : Keeps w0 w []) (h1 : w0.heap.size ≤ Q) (h2 : w0.heap.size ≤ base) : Keeps w0 w' [] := by
 obtain ⟨S,h3,h4⟩ := h.old
 exact k.trans h3 (fun x hx hl => by rcases h4 x hx with h | h <;> omega)
theorem KQB.rd {Q base : Nat} {k : IntKind} {w w' : World} {v : Value} {l : List Int} (h : KQB Q base w w') (hv : RdI k w v l) (h1 : ∀ ad n c,v = .slice (some ad) n c → 0 < n → ad.block ≠ Q ∧ ad.block < base) : RdI k w' v l := by
 obtain ⟨S,h3,h4⟩ := h.old
 exact hv.keepsS h3 (fun ad n c e h0 hm => by have := h1 ad n c e h0;rcases h4 _ hm with h | h <;> omega)
theorem KQB.cell {Q base : Nat} {w w' : World} {p : Addr} (h : KQB Q base w w') (hp : p.block < w.heap.size) (h1 : p.block ≠ Q) (h2 : p.block < base) : w'.cell? p = w.cell? p := by
 obtain ⟨S,h3,h4⟩ := h.old
 exact h3.cell hp (fun hm => by rcases h4 _ hm with h | h <;> omega)
theorem KQB.mono {Q base base' : Nat} {w w' : World} (h : KQB Q base w w') (hb : base' ≤ base) : KQB Q base' w w' := by
 obtain ⟨S,h3,h4⟩ := h
 exact ⟨S,h3,fun x hx => (h4 x hx).imp id (fun h => ⟨by omega,h.2⟩)⟩

structure HW (w : World) (base Q : Nat) (L : List Bool) (n : Nat) : Prop where
 form : ∃ (a : Option Addr) (c N : Nat) (BL : List Int) (v : Nat),Blk w Q #[.int .u64 (v : Int),.int .i64 (n : Int),.slice a N c] 187 ∧ w.ownsRow base 5 1 (.slice a N c) N (BL.map (.int .u8)) ∧ N = BL.length ∧ v < 2 ^ n ∧ (∀ x ∈ BL,0 ≤ x ∧ x ≤ 255) ∧ L = rowBits BL ++ bitsN v n
 base : base ≤ w.heap.size
 small : n ≤ 40
 len : L.length ≤ 8000000
theorem own_neq {w : World} {base Q size n : Nat} {v : Value} {xs : List Value} {cs : Array Value} (own : w.ownsRow base 5 size v n xs) (hb : Blk w Q cs 187) : ∀ x,v.ownBlock = some x → x ≠ Q := by
 intro x hx e
 rw [e] at hx
 rcases own.2 with ⟨rfl,-⟩ | ⟨g,cap,cur,rfl,-,hg,-⟩
 ·cases hx
 ·have hgQ : g = Q := by simpa [Value.ownBlock] using hx
  have h : w.heap[Q]? = some (.cells cs 187 (0,0)) := hb
  rw [hgQ,h] at hg
  simp at hg
theorem own_cellsB {w : World} {base size n : Nat} {v : Value} {xs : List Value} {e : TypeId} (own : w.ownsRow base e size v n xs) : ∀ x,v.ownBlock = some x → ∃ cs z,w.heap[x]? = some (.cells cs e z) := by
 intro x hx
 rcases own.2 with ⟨rfl,-⟩ | ⟨g,cap,cur,rfl,-,hg,-⟩
 ·cases hx
 ·have hgQ : g = x := by simpa [Value.ownBlock] using hx
  subst hgQ
  exact ⟨_,_,hg⟩
theorem own_listB {w : World} {base size n : Nat} {v : Value} {xs : List Value} {e : TypeId} (own : w.ownsRow base e size v n xs) : ∀ x ∈ (match v.ownBlock with | some g => [g] | none => []),∃ cs z,w.heap[x]? = some (.cells cs e z) := by
 intro x hx
 cases hob : v.ownBlock with
 | none => rw [hob] at hx;cases hx
 | some g => rw [hob] at hx;exact own_cellsB own x (by rw [hob,List.mem_singleton.1 hx])
def WR (w : World) (base Q : Nat) (L : List Bool) : Prop := ∃ n,n < 8 ∧ HW w base Q L n

theorem shl_or {v n y k : Nat} (hv : v < 2 ^ n) (hy : y < 2 ^ k) (h : n + k ≤ 64) : bits .or .u64 (v : Int) (IntKind.u64.wrap ((y : Int) * 2 ^ n)) = ((v + 2 ^ n * y : Nat) : Int) ∧ v + 2 ^ n * y < 2 ^ (n + k) := by
 have hp : ∀ m,0 < 2 ^ m := fun m => Nat.pow_pos (by omega)
 have h64 : 2 ^ n * 2 ^ k ≤ 18446744073709551616 := by
  rw [← Nat.pow_add,show (18446744073709551616 : Nat) = 2 ^ 64 by decide]
  exact Nat.pow_le_pow_right (by omega) h
 have h3 : ((y : Int) * 2 ^ n) = ((y * 2 ^ n : Nat) : Int) := by simp
 have h4 : y * 2 ^ n + 2 ^ n ≤ 2 ^ n * 2 ^ k := by
  have := Nat.mul_le_mul_left (2 ^ n) hy
  rw [Nat.mul_succ,Nat.mul_comm] at this
  exact this
 have h5 := hp n
 have h6 := hp k
 have h7 : 2 ^ n ≤ 2 ^ n * 2 ^ k := Nat.le_mul_of_pos_right _ h6
 rw [h3,wrapU_nat (by omega),bits_or_u64_nat _ _ (by omega) (by omega),or_high hv,Nat.pow_add]
 refine ⟨rfl,?_⟩
 rw [Nat.mul_comm (2 ^ n) y]
 omega

set_option maxHeartbeats 2000000 in
theorem hadd_any (Q v n y k : Nat) (a : Option Addr) (N c : Nat) (w : World) (hb : Blk w Q #[.int .u64 (v : Int),.int .i64 (n : Int),.slice a N c] 187) (hv : v < 2 ^ n) (hy : y < 2 ^ k) (hnk : n + k ≤ 60) :
  Calls Tryz.prog 179 #[.pointer (some ⟨Q,0,none⟩),.int .u64 (y : Int),.int .i64 (k : Int)] w fun e w' => e = .returned (.tuple #[]) ∧ Blk w' Q #[.int .u64 ((v + 2 ^ n * y : Nat) : Int),.int .i64 ((n + k : Nat) : Int),.slice a N c] 187 ∧ Keeps w w' [Q] := by
 obtain ⟨hor,-⟩ := shl_or hv hy (by omega)
 obtain ⟨Z,hZ⟩ : ∃ Z : Int,((v + 2 ^ n * y : Nat) : Int) = Z := ⟨_,rfl⟩
 rw [hZ] at hor ⊢
 obtain ⟨c0,c1,-,f0,f1,-⟩ := hb.three
 have hlt := hb.lt
 have hwk : wrap64 ((n : Int) + (k : Int)) = (n : Int) + (k : Int) := IntWalk.wrap64_in _ ⟨by omega,by omega⟩
 have k1 : Keeps w ((w.setCell ⟨Q,0,none⟩ (.int .u64 Z)).drew) [Q] := ((Keeps.refl w [Q]).setCell (.inr (by simp)) _).drew
 have b1 : Blk ((w.setCell ⟨Q,0,none⟩ (.int .u64 Z)).drew) Q #[.int .u64 Z,.int .i64 (n : Int),.slice a N c] 187 := by
  have := (hb.set 0 (.int .u64 Z)).drew
  simpa using this
 clear hZ hv hy hb
 go_enter Tryz.func179,Tryz.ntmps179
 go_wp2_with fail
 go_region
 generalize ((w.setCell ⟨Q,0,none⟩ (.int .u64 Z)).drew) = w1 at *
 clear c0 c1 f0 f1
 obtain ⟨c0,c1,-,f0,f1,-⟩ := b1.three
 have hlt1 := b1.lt
 have k2 : Keeps w (w1.setCell ⟨Q,1,none⟩ (.int .i64 ((n : Int) + (k : Int)))) [Q] := k1.setCell (.inr (by simp)) _
 have b2 : Blk (w1.setCell ⟨Q,1,none⟩ (.int .i64 ((n : Int) + (k : Int)))) Q #[.int .u64 Z,.int .i64 ((n : Int) + (k : Int)),.slice a N c] 187 := by
  have := b1.set 1 (.int .i64 ((n : Int) + (k : Int)))
  simpa using this
 have B2 := Lib.hid (And.intro b2 k2)
 clear b1 b2 k1 k2
 go_wp2_with fail
 go_end0
 exact ⟨rfl,by rw [Int.natCast_add];exact B2.out.1,B2.out.2⟩

theorem bits_byte {v n : Nat} (h : 8 ≤ n) : bitsN v n = bitsN (v % 256) 8 ++ bitsN (v / 256) (n - 8) := by
 have h1 : (bitsN v n).take 8 = bitsN v 8 := bitsN_take v n 8 h
 have h2 : (bitsN v n).drop 8 = bitsN (v / 2 ^ 8) (n - 8) := bitsN_drop v n 8 h
 have h3 : bitsN v 8 = bitsN (v % 256) 8 := by
  have e := bitsN_valL (bitsN v 8)
  rw [valL_bitsN,bitsN_len] at e
  exact e.symm
 rw [← List.take_append_drop 8 (bitsN v n),h1,h2,h3]

set_option maxHeartbeats 2000000 in
theorem hwhole_no (Q v n : Nat) (a : Option Addr) (N c : Nat) (w : World) (hb : Blk w Q #[.int .u64 (v : Int),.int .i64 (n : Int),.slice a N c] 187) (hn : n < 8) :
  Calls Tryz.prog 180 #[.pointer (some ⟨Q,0,none⟩)] w fun e w' => e = .returned (.tuple #[.int .u8 0,.bool false]) ∧ w' = w := by
 obtain ⟨c0,c1,-,f0,f1,-⟩ := hb.three
 have hlt : (n : Int) < 8 := by omega
 clear hb
 go_enter Tryz.func180,Tryz.ntmps180
 go_wp2_with fail
 go_ret2
 exact ⟨rfl,rfl⟩

set_option maxHeartbeats 2000000 in
theorem hwhole_yes (Q v n : Nat) (a : Option Addr) (N c : Nat) (w : World) (hb : Blk w Q #[.int .u64 (v : Int),.int .i64 (n : Int),.slice a N c] 187) (hn : 8 ≤ n) (hn2 : n ≤ 60) (hv : v < 2 ^ n) :
  Calls Tryz.prog 180 #[.pointer (some ⟨Q,0,none⟩)] w fun e w' => e = .returned (.tuple #[.int .u8 ((v % 256 : Nat) : Int),.bool true]) ∧ Blk w' Q #[.int .u64 ((v / 256 : Nat) : Int),.int .i64 ((n - 8 : Nat) : Int),.slice a N c] 187 ∧ Keeps w w' [Q] := by
 obtain ⟨c0,c1,-,f0,f1,-⟩ := hb.three
 have hlt : decide ((n : Int) < 8) = false := decide_eq_false (by omega)
 have hltN : decide (n < 8) = false := decide_eq_false (by omega)
 have h60 : 2 ^ n ≤ 2 ^ 60 := Nat.pow_le_pow_right (by decide) hn2
 rw [show (2 : Nat) ^ 60 = 1152921504606846976 by decide] at h60
 obtain ⟨V,hV⟩ : ∃ V : Int,(v : Int) = V := ⟨_,rfl⟩
 obtain ⟨M,hM⟩ : ∃ M : Int,((v % 256 : Nat) : Int) = M := ⟨_,rfl⟩
 obtain ⟨D,hD⟩ : ∃ D : Int,((v / 256 : Nat) : Int) = D := ⟨_,rfl⟩
 have hM1 : V % 256 = M := by omega
 have hD1 : V / 256 = D := by omega
 obtain ⟨n8,hn8⟩ : ∃ D : Int,((n - 8 : Nat) : Int) = D := ⟨_,rfl⟩
 have hn9 : (n : Int) - 8 = n8 := by omega
 have hw8 : wrap64 n8 = n8 := IntWalk.wrap64_in _ ⟨by omega,by omega⟩
 rw [hM,hD,hn8]
 rw [hV] at c0 hb
 have hu8 : IntKind.u8.wrap V = M := by simp [IntKind.wrap,IntKind.signed,IntKind.bits];omega
 have hQ := hb.lt
 clear hV hM hD hn8 hv h60
 go_enter Tryz.func180,Tryz.ntmps180
 go_wp2_with fail
 go_ret2
 have b1 := hb.set 0 (.int .u64 D)
 have b2 := b1.set 1 (.int .i64 n8)
 exact ⟨rfl,by simpa using b2,((Keeps.refl w [Q]).setCell (.inr (by simp)) _).setCell (.inr (by simp)) _⟩

theorem HW.lt {w : World} {base Q n : Nat} {L : List Bool} (h : HW w base Q L n) : Q < w.heap.size := by obtain ⟨a,c,N,BL,v,hb,-⟩ := h.form;exact hb.lt
theorem HW.keeps {w w' : World} {base Q n : Nat} {L : List Bool} {S : List Nat} (h : HW w base Q L n) (k : Keeps w w' S) (h1 : Q ∉ S) (h2 : ∀ x ∈ S,x < base) : HW w' base Q L n := by
 obtain ⟨a,c,N,BL,v,hb,own,hN,hv,hB,hL⟩ := h.form
 exact ⟨⟨a,c,N,BL,v,hb.keeps k h1,own_old own k (fun x hx hm => by have := h2 x hm;have := (own.lt x hx).1;omega),hN,hv,hB,hL⟩,Nat.le_trans h.base k.size,h.small,h.len⟩
theorem HW.keeps0 {w w' : World} {base Q n : Nat} {L : List Bool} (h : HW w base Q L n) (k : Keeps w w' []) : HW w' base Q L n := h.keeps k (by simp) (fun x hx => by cases hx)
theorem WR.keeps {w w' : World} {base Q : Nat} {L : List Bool} {S : List Nat} (h : WR w base Q L) (k : Keeps w w' S) (h1 : Q ∉ S) (h2 : ∀ x ∈ S,x < base) : WR w' base Q L := by
 obtain ⟨n,hn,h⟩ := h
 exact ⟨n,hn,h.keeps k h1 h2⟩
theorem WR.keeps0 {w w' : World} {base Q : Nat} {L : List Bool} (h : WR w base Q L) (k : Keeps w w' []) : WR w' base Q L := h.keeps k (by simp) (fun x hx => by cases hx)
theorem WR.lt {w : World} {base Q : Nat} {L : List Bool} (h : WR w base Q L) : Q < w.heap.size ∧ base ≤ w.heap.size := by obtain ⟨n,-,h⟩ := h;exact ⟨h.lt,h.base⟩
theorem WR.new {w : World} {base Q : Nat} (hb : Blk w Q #[.int .u64 0,.int .i64 0,.slice none 0 0] 187) (h2 : base ≤ w.heap.size) : WR w base Q [] :=
 ⟨0,by omega,⟨⟨none,0,0,[],0,hb,World.ownsRow_nil _ _ _ _,rfl,by decide,by simp,rfl⟩,h2,by omega,by simp⟩⟩

theorem bitsN_join (v m k : Nat) : bitsN v m ++ bitsN (v / 2 ^ m) k = bitsN v (m + k) := by
 have h1 := bitsN_take v (m + k) m (by omega)
 have h2 := bitsN_drop v (m + k) m (by omega)
 rw [Nat.add_sub_cancel_left] at h2
 rw [← h1,← h2,List.take_append_drop]
theorem bitsN_high {v n y k : Nat} (hv : v < 2 ^ n) : bitsN (v + 2 ^ n * y) (n + k) = bitsN v n ++ bitsN y k := by
 rw [← bitsN_join]
 have h0 : 0 < 2 ^ n := Nat.pow_pos (by omega)
 congr 1
 ·have e := bitsN_valL (bitsN (v + 2 ^ n * y) n)
  rw [valL_bitsN,bitsN_len,Nat.add_mul_mod_self_left,Nat.mod_eq_of_lt hv] at e
  exact e.symm
 ·rw [Nat.add_mul_div_left _ _ h0,Nat.div_eq_of_lt hv,Nat.zero_add]

theorem hwAdd (Q base n y k : Nat) (L : List Bool) (w : World) (h : HW w base Q L n) (hy : y < 2 ^ k) (hnk : n + k ≤ 40) (hl : L.length + k ≤ 8000000) :
  Calls Tryz.prog 179 #[.pointer (some ⟨Q,0,none⟩),.int .u64 (y : Int),.int .i64 (k : Int)] w fun e w' => e = .returned (.tuple #[]) ∧ HW w' base Q (L ++ bitsN y k) (n + k) ∧ KQB Q base w w' := by
 obtain ⟨a,c,N,BL,v,hb,own,hN,hv,hB,hL⟩ := h.form
 refine (hadd_any Q v n y k a N c w hb hv hy (by omega)).mono ?_
 rintro e w' ⟨rfl,hb',k'⟩
 refine ⟨rfl,⟨⟨a,c,N,BL,_,hb',own_old own k' (fun x hx hm => own_neq own hb x hx (List.mem_singleton.1 hm)),hN,(shl_or hv hy (by omega)).2,hB,?_⟩,Nat.le_trans h.base k'.size,hnk,by rw [List.length_append,bitsN_len];exact hl⟩,.of k' (fun x hx => .inl (List.mem_singleton.1 hx))⟩
 rw [bitsN_high hv,hL,List.append_assoc]

set_option maxHeartbeats 4000000 in
theorem put_any (Q base y m : Nat) (L : List Bool) (w : World) (h : WR w base Q L) (hy : y < 2 ^ m) (hm : m ≤ 32) (hl : L.length + m ≤ 8000000) :
  Calls Tryz.prog 146 #[.pointer (some ⟨Q,0,none⟩),.int .u64 (y : Int),.int .i64 (m : Int)] w fun e w' => e = .returned (.int .i64 0) ∧ WR w' base Q (L ++ bitsN y m) ∧ KQB Q base w w' := by
 obtain ⟨i0,hi,hz0,hz1,hz2⟩ := info_parts Tryz.infoByte
 have h32 : 2 ^ m ≤ 2 ^ 32 := Nat.pow_le_pow_right (by decide) hm
 rw [show (2 : Nat) ^ 32 = 4294967296 by decide] at h32
 have hd0 : y / 2 ^ m = 0 := Nat.div_eq_of_lt hy
 obtain ⟨Y,hY⟩ : ∃ Y : Int,(y : Int) = Y := ⟨_,rfl⟩
 have hY0 : 0 ≤ Y := by omega
 have hYd : Y / 2 ^ m = 0 := by
  rw [← hY]
  have e : ((y : Int) / 2 ^ m) = ((y / 2 ^ m : Nat) : Int) := by simp
  rw [e,hd0];rfl
 have hand : bits .and .u64 Y (IntKind.u64.wrap (IntKind.u64.wrap (2 ^ m) - 1)) = Y := by
  have hp : 0 < 2 ^ m := Nat.pow_pos (by omega)
  have h1 : ((2 : Int) ^ m) = ((2 ^ m : Nat) : Int) := by simp
  rw [h1,wrapU_nat (by omega),show ((2 ^ m : Nat) : Int) - 1 = ((2 ^ m - 1 : Nat) : Int) by omega,wrapU_nat (by omega),← hY,bits_and_u64_nat _ _ (by omega) (by omega),Nat.and_two_pow_sub_one_eq_mod,Nat.mod_eq_of_lt hy]
 have hm64 : (m : Int) < 64 := by omega
 have hm0 : decide ((m : Int) < 0) = false := decide_eq_false (by omega)
 have hm65 : decide ((64 : Int) < (m : Int)) = false := decide_eq_false (by omega)
 have hm65N : decide (64 < m) = false := decide_eq_false (by omega)
 have hlw := h.lt
 have HH := Lib.hid h
 have HL := Lib.hid hl
 have HY := Lib.hid hy
 have HYE := Lib.hid hY
 rw [hY]
 clear h hl hy h32 hd0 hY
 have HAND := Lib.hid hand
 have hmin : min (m : Int) 32 = (m : Int) := by omega
 go_enter Tryz.func146,Tryz.ntmps146
 go_wp2_with fail
 go_loopw [1,2] (fun s1 s2 wr => (s1 = .int .u64 Y ∧ s2 = .int .i64 (m : Int) ∧ wr = w) ∨ (s1 = .int .u64 0 ∧ s2 = .int .i64 0 ∧ WR wr base Q (L ++ bitsN y m) ∧ KQB Q base w wr)) (fun _ s2 _ => (intOf s2).toNat)
 case atStart => exact .inl ⟨rfl,rfl,rfl⟩
 case round =>
  rcases hrel with ⟨rfl,rfl,rfl⟩ | ⟨rfl,rfl,wo,kk⟩
  ·by_cases hmz : 0 < m
   ·have hmzI : (0 : Int) < (m : Int) := by omega
    obtain ⟨n0,hn0,hw0⟩ := HH.out
    have HADD := Lib.hid (hwAdd Q base n0 y m L wr.drew (hw0.keeps0 (Keeps.refl wr []).drew) HY.out (by omega) HL.out)
    rw [HYE.out] at HADD
    have hQ := hw0.lt
    have hbs := hw0.base
    have hb' : base ≤ wr.drew.heap.size := hbs
    go_wp2_with fail
    refine wp_region_held_drew (S := (fun w' => base ≤ w'.heap.size)) (by kernel_rfl) hb' (fun hHeld => ?_)
    refine takeM 0 rfl (by intro w9 hSw;clear hSw;go_simp;(try with_reducible rfl)) ?_
    try simp only [Act.put,stA,stZ,stS]
    refine takeM 1 rfl (by intro w9 hSw;clear hSw;go_simp;(try with_reducible rfl)) ?_
    try simp only [Act.put,stA,stZ,stS]
    refine takeM 2 rfl (by intro w9 hSw;clear hSw;go_simp;(try with_reducible rfl)) ?_
    try simp only [Act.put,stA,stZ,stS]
    refine takeM 3 rfl (by intro w9 hSw;clear hSw;go_simp;(try with_reducible rfl)) ?_
    try simp only [Act.put,stA,stZ,stS]
    refine takeM 4 rfl (by intro w9 hSw;clear hSw;go_simp;(try with_reducible rfl)) ?_
    try simp only [Act.put,stA,stZ,stS]
    refine takeM 5 rfl (by intro w9 hSw;clear hSw;go_simp;(try with_reducible rfl)) ?_
    try simp only [Act.put,stA,stZ,stS]
    refine takeM 6 rfl (by intro w9 hSw;clear hSw;go_simp;(try with_reducible rfl)) ?_
    try simp only [Act.put,stA,stZ,stS]
    refine takeM 7 rfl (by intro w9 hSw;clear hSw;go_simp;(try with_reducible rfl)) ?_
    try simp only [Act.put,stA,stZ,stS]
    refine takeM 8 rfl (by intro w9 hSw;clear hSw;go_simp;(try with_reducible rfl)) ?_
    try simp only [Act.put,stA,stZ,stS]
    refine callL (i := 9) rfl (by kernel_rfl) (fun Kont hK => ?_)
    go_simp
    try rw [HAND.out]
    refine HADD.out.mono ?_
    rintro e w2 ⟨rfl,hw2,k2⟩
    have HW2 := Lib.hid hw2
    have K2 := Lib.hid ((KQB.of (Q := Q) (base := base) ((Keeps.refl wr []).drew) (by simp)).trans k2)
    have hb2 := hw2.base
    clear hw2 k2
    go_wp2_with fail
    refine hK.out _ _ ?_ (fun hHeld => ?_)
    ·exact hb2
    clear hK Kont
    refine wpAnyH_done (by kernel_rfl) ?_ _
    go_wp2_with fail
    go_loopg [8,9] (n0 + m) (fun k s8 s9 wi => ∃ n',Hid (k = n') ∧ HW wi base Q (L ++ bitsN y m) n' ∧ KQB Q base wr wi)
    case atStart => exact ⟨_,rfl,HW2.out,K2.out⟩
    case round =>
     obtain ⟨n',hk,hw,kk⟩ := hrel
     obtain ⟨a,c,N,BL,v,hb,own,hN,hv,hB,hL⟩ := hw.form
     have hQ2 := hw.lt
     have hsm := hw.small
     have hbs2 := hw.base
     by_cases h8 : n' < 8
     ·have HNO := Lib.hid (hwhole_no Q v n' a N c _ hb h8)
      have HWF := Lib.hid hw
      have KK := Lib.hid kk
      have H8 := Lib.hid h8
      clear hb own hN hv hB hL hw kk h8
      go_wp2_with (go_at_call 180;(refine HNO.out.mono ?_;rintro e w5 ⟨rfl,rfl⟩))
      go_roundw
      case rel => exact .inr ⟨rfl,rfl,⟨n',H8.out,HWF.out⟩,KK.out⟩
      case measure => simp [intOf];omega
     ·have HYS := Lib.hid (hwhole_yes Q v n' a N c _ hb (by omega) (by omega) hv)
      have OW := Lib.hid own
      have KK := Lib.hid kk
      have HBL : Hid (∀ x ∈ BL ++ [((v % 256 : Nat) : Int)],0 ≤ x ∧ x ≤ 255) := Lib.hid (fun x hx => by
       rcases List.mem_append.1 hx with h | h
       ·exact hB x h
       ·have := List.mem_singleton.1 h;omega)
      have HLL : Hid (L ++ bitsN y m = rowBits (BL ++ [((v % 256 : Nat) : Int)]) ++ bitsN (v / 256) (n' - 8)) := Lib.hid (by
       rw [hL,bits_byte (v := v) (n := n') (by omega),rowBits_append,List.append_assoc]
       simp only [rowBits,List.append_nil,Int.toNat_natCast])
      have HVL : Hid (v / 256 < 2 ^ (n' - 8)) := Lib.hid (by
       have e : 2 ^ n' = 2 ^ (n' - 8) * 256 := by rw [show (256 : Nat) = 2 ^ 8 by decide,← Nat.pow_add,show n' - 8 + 8 = n' by omega]
       rw [e] at hv
       exact Nat.div_lt_of_lt_mul (by rw [Nat.mul_comm];exact hv))
      have HN := Lib.hid hN
      have HLEN := Lib.hid hw.len
      have hN8 : N ≤ 1000000 := by
       have h1 := hw.len
       rw [hL,List.length_append,rowBits_len] at h1
       omega
      have Y8 := Lib.hid (young own)
      have NQ := Lib.hid (own_neq own hb)
      have NQ2 : Hid (Q ∉ (match (Value.slice a N c).ownBlock with | some g => [g] | none => [])) := Lib.hid (fun hm => by
       cases hob : (Value.slice a N c).ownBlock with
       | none => rw [hob] at hm;cases hm
       | some g => rw [hob] at hm;exact NQ.out g hob (List.mem_singleton.1 hm).symm)
      obtain ⟨X,hX⟩ : ∃ X : Int,((v % 256 : Nat) : Int) = X := ⟨_,rfl⟩
      rw [hX] at HYS HBL HLL
      clear hb own hN hB hL hw kk hv hX
      go_wp2_with (first
       | (go_at_call 180;(refine HYS.out.mono ?_;rintro e w5 ⟨rfl,hb5,k5⟩;obtain ⟨-,-,c2,-,-,f2⟩ := hb5.three;have hb5l := hb5.lt;have B5 := Lib.hid hb5;have K5 := Lib.hid k5;have hs5 := k5.size;have OW5 := Lib.hid (own_old OW.out k5 (fun x hx hm => NQ.out x hx (List.mem_singleton.1 hm)));clear hb5 k5))
       | (at_builtin;(refine wpList_app1 (w := w5) rfl _ _ 22 rfl base i0 Tryz.underlying22 hi hz0 hz1 hz2 (.slice a N c) N BL X _ rfl rfl rfl OW5.out (by omega) (by omega) ?_;intro a6 c6 w6 own6 k6;have b6 := B5.out.keeps k6 NQ2.out;clear c2 f2;obtain ⟨-,-,c2,-,-,f2⟩ := b6.three;have hb6l := b6.lt;have B6 := Lib.hid b6;have K6 := Lib.hid k6;have hs6 := k6.size;have OW6 := Lib.hid own6;clear own6 k6 b6)))
      have kset : Keeps w6 (w6.setCell ⟨Q,2,none⟩ (.slice a6 (N + 1) c6)) [Q] := (Keeps.refl w6 _).setCell (.inr (by simp)) _
      have b7 : Blk (w6.setCell ⟨Q,2,none⟩ (.slice a6 (N + 1) c6)) Q #[.int .u64 ((v / 256 : Nat) : Int),.int .i64 ((n' - 8 : Nat) : Int),.slice a6 (N + 1) c6] 187 := by
       have := B6.out.set 2 (.slice a6 (N + 1) c6)
       simpa using this
      go_roundg (n' - 8)
      case measure => rw [hk.out];omega
      case rel =>
       refine ⟨n' - 8,rfl,⟨⟨a6,c6,N + 1,BL ++ [X],v / 256,b7,own_old OW6.out kset (fun x hx hm => own_neq OW6.out B6.out x hx (List.mem_singleton.1 hm)),by rw [List.length_append,List.length_singleton,← HN.out],HVL.out,HBL.out,HLL.out⟩,by have := kset.size;omega,by omega,HLEN.out⟩,?_⟩
       refine ((KK.out.trans (.of K5.out (fun x hx => .inl (List.mem_singleton.1 hx)))).trans (.of K6.out (fun x hx => .inr ⟨Y8.out x hx,.inr (own_listB OW5.out x hx)⟩))).trans (.of kset (fun x hx => .inl (List.mem_singleton.1 hx)))
   ·have hmzI : decide ((0 : Int) < (m : Int)) = false := decide_eq_false (by omega)
    have hmzN : decide (0 < m) = false := decide_eq_false (by omega)
    have HF : Hid (L ++ bitsN y m = L) := Lib.hid (by
     obtain rfl : m = 0 := by omega
     simp [bitsN])
    clear hmz
    go_wp2_with fail
    go_ret
    exact ⟨rfl,by rw [HF.out];exact HH.out,.refl _ _ _⟩
  ·have WO := Lib.hid wo
   have KK := Lib.hid kk
   clear wo kk
   go_wp2_with fail
   go_ret
   exact ⟨rfl,WO.out,KK.out⟩
end

section
open Go.RowKit

set_option maxHeartbeats 4000000 in
theorem wbytes_any (Q base : Nat) (L : List Bool) (w : World) (h : WR w base Q L) :
  Calls Tryz.prog 112 #[.pointer (some ⟨Q,0,none⟩)] w fun e w' => ∃ v',e = .returned v' ∧ OwnB w' w.heap.size v' (packB L) ∧ Keeps w w' [] := by
 obtain ⟨i0,hi,hz0,hz1,hz2⟩ := info_parts Tryz.infoByte
 obtain ⟨n,hn,hw⟩ := h
 obtain ⟨a,c,N,BL,v,hb,own,hN,hv,hB,hL⟩ := hw.form
 have hlen := hw.len
 have hNl : N ≤ 1000000 := by
  have h1 := hlen
  rw [hL,List.length_append,rowBits_len] at h1
  omega
 have hrd : RdI .u8 w (.slice a N c) BL := by
  have h1 := own
  rw [hN] at h1 ⊢
  exact own_reads h1
 have HC := Lib.hid (cloneb_any (.slice a N c) BL w hrd (by omega))
 have HP := packB_row hB hn hv
 rw [← hL] at HP
 obtain ⟨c0,c1,c2,-⟩ := hb.three
 have hQ := hb.lt
 have HB := Lib.hid hb
 have HN := Lib.hid hN
 by_cases h0 : 0 < n
 ·rw [if_pos h0] at HP
  have HPK := Lib.hid HP
  have h0I : (0 : Int) < (n : Int) := by omega
  have hv7 : v < 128 := by
   have : 2 ^ n ≤ 2 ^ 7 := Nat.pow_le_pow_right (by decide) (by omega)
   rw [show (2 : Nat) ^ 7 = 128 by decide] at this
   omega
  obtain ⟨V,hV⟩ : ∃ V : Int,(v : Int) = V := ⟨_,rfl⟩
  rw [hV] at HPK c0 HB
  have hV8 : V % 256 = V := by omega
  clear hw hb own hv hB hL hrd HP hlen hV hN hn
  go_enter Tryz.func112,Tryz.ntmps112
  go_wp2_with (first
   | (go_at_call 33;(refine HC.out.mono ?_;rintro e w1 ⟨v1,rfl,own1,k1⟩;unfold OwnB at own1;rw [← HN.out] at own1;obtain ⟨a1,cp1,rfl⟩ := own_form own1;clear c0 c1 c2;obtain ⟨c0,c1,c2,-⟩ := (HB.out.keeps k1 (by simp)).three;have OW1 := Lib.hid own1;have K1 := Lib.hid k1;have hs1 := k1.size;clear own1 k1))
   | (at_builtin;(refine wpList_app1 (w := w1) rfl _ _ 22 rfl w.heap.size i0 Tryz.underlying22 hi hz0 hz1 hz2 (.slice a1 N cp1) N BL V _ rfl rfl rfl OW1.out (by omega) hs1 ?_;intro a3 c3 w3 own3 k3;have OW3 := Lib.hid own3;have K3 := Lib.hid k3;clear own3 k3)))
  go_ret
  refine ⟨_,rfl,?_,keeps_row K1.out K3.out (fun g hg => (OW1.out.lt g hg).1)⟩
  rw [HPK.out]
  unfold OwnB
  have hl : (BL ++ [V]).length = N + 1 := by rw [List.length_append,List.length_singleton,← HN.out]
  rw [hl]
  exact OW3.out
 ·rw [if_neg h0,List.append_nil] at HP
  have HPK := Lib.hid HP
  have h0I : decide ((0 : Int) < (n : Int)) = false := decide_eq_false (by omega)
  have h0N : decide (0 < n) = false := decide_eq_false h0
  clear hw hb own hv hB hL hrd HP hlen hN hn h0
  go_enter Tryz.func112,Tryz.ntmps112
  go_wp2_with (go_at_call 33;(refine HC.out.mono ?_;rintro e w1 ⟨v1,rfl,own1,k1⟩;clear c0 c1 c2;obtain ⟨c0,c1,c2,-⟩ := (HB.out.keeps k1 (by simp)).three;have OW1 := Lib.hid own1;have K1 := Lib.hid k1;clear own1 k1))
  go_ret
  refine ⟨_,rfl,?_,K1.out⟩
  rw [HPK.out]
  exact OW1.out

theorem wr_of {W : World} {base CB n v c1 : Nat} {a1 : Option Addr} {BL : List Int} {L : List Bool} (h : n < 8 ∧ v < 2 ^ n ∧ (∀ x ∈ BL,0 ≤ x ∧ x ≤ 255) ∧ L = rowBits BL ++ bitsN v n) (hl : L.length ≤ 7000000)
  (hb : Blk W CB #[.int .u64 (v : Int),.int .i64 (n : Int),.slice a1 BL.length c1] 187) (own : OwnB W base (.slice a1 BL.length c1) BL) (hbs : base ≤ W.heap.size) : WR W base CB L :=
 ⟨n,h.1,⟨⟨a1,c1,BL.length,BL,v,hb,own,rfl,h.2.1,h.2.2.1,h.2.2.2⟩,hbs,by have := h.1;omega,by omega⟩⟩

theorem Tryz.writer_size : (Tryz.prog.info? 187).map (·.size) = some 3 := by kernel_rfl

set_option maxHeartbeats 4000000 in
theorem wclose_any (Q base : Nat) (L : List Bool) (w : World) (h : WR w base Q L) (hl : L.length ≤ 7000000) :
  Calls Tryz.prog 208 #[.pointer (some ⟨Q,0,none⟩)] w fun e w' => ∃ v',e = .returned v' ∧ OwnB w' w.heap.size v' (packB (L ++ [true])) ∧ Keeps w w' [] := by
 obtain ⟨n,hn,hw⟩ := h
 obtain ⟨a,c,N,BL,v,hb,own,hN,hv,hB,hL⟩ := hw.form
 have hlen := hw.len
 have hNl : N ≤ 1000000 := by
  have h1 := hlen
  rw [hL,List.length_append,rowBits_len] at h1
  omega
 have hrd : RdI .u8 w (.slice a N c) BL := by
  have h1 := own
  rw [hN] at h1 ⊢
  exact own_reads h1
 have HC := Lib.hid (fun W (k : Keeps w W []) => cloneb_any (.slice a N c) BL W (hrd.keeps k) (by omega))
 have hQ := hb.lt
 have HB := Lib.hid hb
 have HN := Lib.hid hN
 have HF := Lib.hid (show _ ∧ _ ∧ _ ∧ _ from ⟨hn,hv,hB,hL⟩)
 have HLL := Lib.hid hl
 clear hw hb own hv hB hL hrd hlen hN hn hl
 go_enter Tryz.func208,Tryz.ntmps208
 go_wp2_with fail
 refine wp_region_held_drew (S := (fun w' => Keeps w w' [])) (by kernel_rfl) (Keeps.refl w []).drew (fun hHeld => ?_)
 refine takeM 0 rfl (by intro w9 hSw;clear hSw;go_simp;(try with_reducible rfl)) ?_
 try simp only [Act.put,stA,stZ,stS]
 refine takeM 1 rfl (by intro w9 hSw;clear hSw;go_simp;(try with_reducible rfl)) ?_
 try simp only [Act.put,stA,stZ,stS]
 refine takeM 2 rfl (by intro w9 hSw;clear hSw;go_simp;(try with_reducible rfl)) ?_
 try simp only [Act.put,stA,stZ,stS]
 refine takeM 3 rfl (by intro w9 hSw;have q := HB.out.keeps hSw (by simp);obtain ⟨r0,r1,r2,-⟩ := q.three;clear hSw q;go_simp;(try with_reducible rfl)) ?_
 try simp only [Act.put,stA,stZ,stS]
 refine takeM 4 rfl (by intro w9 hSw;clear hSw;go_simp;(try with_reducible rfl)) ?_
 try simp only [Act.put,stA,stZ,stS]
 refine takeM 5 rfl (by intro w9 hSw;clear hSw;go_simp;(try with_reducible rfl)) ?_
 try simp only [Act.put,stA,stZ,stS]
 refine takeM 6 rfl (by intro w9 hSw;clear hSw;go_simp;(try with_reducible rfl)) ?_
 try simp only [Act.put,stA,stZ,stS]
 refine takeM 7 rfl (by intro w9 hSw;have q := HB.out.keeps hSw (by simp);obtain ⟨r0,r1,r2,-⟩ := q.three;clear hSw q;go_simp;(try with_reducible rfl)) ?_
 try simp only [Act.put,stA,stZ,stS]
 refine call2L (i := 8) (j := 10) rfl rfl (by kernel_rfl) (fun Kont hK => ?_) (fun Kont hK => ?_)
 ·go_simp
  refine (HC.out _ (Keeps.refl w []).drew).mono ?_
  rintro e w1 ⟨v1,rfl,own1,k1⟩
  obtain ⟨a1,c1,rfl⟩ := own_form own1
  have k1' := (Keeps.refl w []).drew.then k1
  have OW1 := Lib.hid own1
  have K1 := Lib.hid k1'
  have hs1 := k1'.size
  clear own1 k1
  go_wp2_with fail
  refine hK.out _ _ ?_ (fun hHeld => ?_)
  ·exact k1'
  clear hK Kont k1'
  refine takeM 9 rfl (by intro w9 hSw;clear hSw;go_simp;(try with_reducible rfl)) ?_
  try simp only [Act.put,stA,stZ,stS]
  refine callL (i := 10) rfl (by kernel_rfl) (fun Kont hK => ?_)
  go_simp
  refine hK.out _ _ ?_ (fun hHeld => ?_)
  ·exact hHeld.alloc _
  clear hK Kont
  refine callL (i := 11) rfl (by kernel_rfl) (fun Kont hK => ?_)
  refine step_storeB rfl 187 _ _ rfl w1.heap.size #[.int .u64 (v : Int),.int .i64 (n : Int),.slice a1 BL.length c1] rfl rfl _ _ (Blk.new _ _ _) Tryz.writer_size rfl (by simp [Value.oneCell']) ?_
  intro W9 b9 k9
  have kk9 : Keeps w W9 [] := (K1.out.alloc _).trans k9 (fun j hj hl => by have := List.mem_singleton.1 hj;omega)
  refine hK.out _ _ ?_ (fun hHeld => ?_)
  ·exact kk9
  clear hK Kont
  have own9 := own_old (own_keeps OW1.out ((Keeps.refl w1 []).alloc (.cells #[.int .u64 0,.int .i64 0,.slice none 0 0] 187))) k9 (fun x hx hm => by have := List.mem_singleton.1 hm;have := (OW1.out.lt x hx).2;omega)
  have hW := wr_of HF.out HLL.out b9 own9 kk9.size
  refine wpAnyH_done (by kernel_rfl) ?_ _
  have hPUT := Lib.hid (put_any _ w.heap.size 1 1 L W9 hW (by decide) (by decide) (by have := HLL.out;omega))
  have KK9 := Lib.hid kk9
  clear hW own9 b9 kk9 k9
  go_wp2_with (first
   | (go_at_call 146;(refine hPUT.out.mono ?_;rintro e w5 ⟨rfl,wr5,k5⟩;have WR5 := Lib.hid wr5;have K5 := Lib.hid k5;clear wr5 k5))
   | (go_at_call 112;(refine (wbytes_any _ _ _ _ WR5.out).mono ?_;rintro e w6 ⟨v6,rfl,own6,k6⟩;have OW6 := Lib.hid own6;have K6 := Lib.hid k6;clear own6 k6)))
  go_ret
  have hs := KK9.out.size
  have kk5 := K5.out.low KK9.out (by first | exact Nat.le_refl _ | omega) (Nat.le_refl _)
  exact ⟨_,rfl,own_base OW6.out kk5.size,kk5.then K6.out⟩
 ·go_simp
  refine hK.out _ _ ?_ (fun hHeld => ?_)
  ·exact (Keeps.refl w []).drew.alloc _
  clear hK Kont
  have k0 := ((Keeps.refl w []).drew).alloc (.cells #[.int .u64 0,.int .i64 0,.slice none 0 0] 187)
  have b0 : Blk (w.drew.alloc (.cells #[.int .u64 0,.int .i64 0,.slice none 0 0] 187)) w.heap.size #[.int .u64 0,.int .i64 0,.slice none 0 0] 187 := Blk.new w.drew _ _
  refine callL (i := 8) rfl (by kernel_rfl) (fun Kont hK => ?_)
  go_simp
  refine (HC.out _ k0).mono ?_
  rintro e w1 ⟨v1,rfl,own1,k1⟩
  obtain ⟨a1,c1,rfl⟩ := own_form own1
  have k1' := k0.then k1
  have b1 := b0.keeps k1 (by simp)
  have OW1 := Lib.hid own1
  have hs1 := k1'.size
  clear own1 k1
  go_wp2_with fail
  refine hK.out _ _ ?_ (fun hHeld => ?_)
  ·exact k1'
  clear hK Kont
  refine takeM 9 rfl (by intro w9 hSw;clear hSw;go_simp;(try with_reducible rfl)) ?_
  try simp only [Act.put,stA,stZ,stS]
  refine callL (i := 11) rfl (by kernel_rfl) (fun Kont hK => ?_)
  refine step_storeB rfl 187 _ _ rfl w.heap.size #[.int .u64 (v : Int),.int .i64 (n : Int),.slice a1 BL.length c1] rfl rfl _ _ b1 Tryz.writer_size rfl (by simp [Value.oneCell']) ?_
  intro W9 b9 k9
  have kk9 : Keeps w W9 [] := k1'.trans k9 (fun j hj hl => by have := List.mem_singleton.1 hj;omega)
  refine hK.out _ _ ?_ (fun hHeld => ?_)
  ·exact kk9
  clear hK Kont
  have own9 := own_old OW1.out k9 (fun x hx hm => by have := List.mem_singleton.1 hm;have := (OW1.out.lt x hx).1;simp at this;omega)
  have hW := wr_of HF.out HLL.out b9 (own_base own9 (by simp)) kk9.size
  refine wpAnyH_done (by kernel_rfl) ?_ _
  have hPUT := Lib.hid (put_any _ w.heap.size 1 1 L W9 hW (by decide) (by decide) (by have := HLL.out;omega))
  have KK9 := Lib.hid kk9
  clear hW own9 b9 kk9 k9
  go_wp2_with (first
   | (go_at_call 146;(refine hPUT.out.mono ?_;rintro e w5 ⟨rfl,wr5,k5⟩;have WR5 := Lib.hid wr5;have K5 := Lib.hid k5;clear wr5 k5))
   | (go_at_call 112;(refine (wbytes_any _ _ _ _ WR5.out).mono ?_;rintro e w6 ⟨v6,rfl,own6,k6⟩;have OW6 := Lib.hid own6;have K6 := Lib.hid k6;clear own6 k6)))
  go_ret
  have hs := KK9.out.size
  have kk5 := K5.out.low KK9.out (by first | exact Nat.le_refl _ | omega) (Nat.le_refl _)
  exact ⟨_,rfl,own_base OW6.out kk5.size,kk5.then K6.out⟩
end

end Go.Proofs.YtcmagccfagijlaaGreat
