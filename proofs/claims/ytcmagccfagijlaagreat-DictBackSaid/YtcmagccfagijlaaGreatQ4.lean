/-
  The length of a number in bits is its logarithm and one more. No program is in sight here.
  The weights of a tree; the tree of weights. No program is in sight here.
  Walks over package weights: is, must, the deferred function, of.
  A cursor over bytes: Left; the calls through num.read.
-/
import Derived.WalkKit
import Derived.Shelf.Small.Bits
import Derived.Test.YtcmagccfagijlaaGreatQ1
import Derived.BigQuiet
import Derived.Deep.QuietTactic
import Derived.Laws.EntriesVeiled
namespace Go.Proofs.YtcmagccfagijlaaGreat
set_option linter.unusedVariables false
set_option linter.unusedSimpArgs false
set_option linter.unusedSectionVars false
set_option maxRecDepth 100000
section
theorem bitLenAux_log (f n : Nat) (h : n < 2 ^ f) (h0 : 0 < n) : Go.Lib.bitLenAux f n = n.log2 + 1 := by
 induction f generalizing n with
 | zero => omega
 | succ f ih =>
  rw [Go.Lib.bitLenAux,if_neg (by omega)]
  by_cases h2 : n / 2 = 0
  ·have : n = 1 := by omega
   subst this
   cases f <;> simp [Go.Lib.bitLenAux,Nat.log2_def]
  ·rw [ih (n / 2) (by rw [Nat.pow_succ] at h;omega) (by omega)]
   rw [Nat.log2_def n,if_pos (by omega)]
   omega
theorem bitLen_log {n : Nat} (h0 : 0 < n) (h : n < 18446744073709551616) : Go.Lib.bitLen n = n.log2 + 1 := bitLenAux_log 64 n h h0
end

section
open Go.RowKit

/-! ### The last positive number -/
def lastF : Nat → Nat → List Int → Nat
 | m,_,[] => m
 | m,i,x :: l => lastF (if 0 < x then i else m) (i + 1) l
def lastU (l : List Int) : Nat := lastF 0 0 l
theorem lastF_snoc (m i : Nat) (l : List Int) (x : Int) : lastF m i (l ++ [x]) = if 0 < x then i + l.length else lastF m i l := by
 induction l generalizing m i with
 | nil => simp [lastF]
 | cons y l ih =>
  simp only [List.cons_append,lastF,ih,List.length_cons]
  split <;> first | omega | rfl
theorem lastU_snoc (l : List Int) (x : Int) : lastU (l ++ [x]) = if 0 < x then l.length else lastU l := by
 rw [lastU,lastF_snoc,Nat.zero_add];rfl
theorem lastU_take {l : List Int} {k : Nat} {x : Int} (h : l[k]? = some x) : lastU (l.take (k + 1)) = if 0 < x then k else lastU (l.take k) := by
 have hk : (l.take k).length = k := by have := (List.getElem?_eq_some_iff.1 h).1;simp;omega
 rw [take_next h,lastU_snoc,hk]
theorem lastU_le (l : List Int) : lastU l ≤ l.length - 1 := by
 suffices h : ∀ k,lastU (l.take k) ≤ (l.take k).length - 1 by
  have := h l.length
  rw [List.take_length] at this;exact this
 intro k
 induction k with
 | zero => simp [lastU,lastF]
 | succ k ih =>
  cases h : l[k]? with
  | none =>
   have hl := List.getElem?_eq_none_iff.1 h
   rw [List.take_of_length_le (show l.length ≤ k + 1 by omega)]
   rw [List.take_of_length_le hl] at ih
   exact ih
  | some x =>
   have := (List.getElem?_eq_some_iff.1 h).1
   rw [lastU_take h]
   simp only [List.length_take] at ih ⊢
   split <;> omega

/-! ### Weights of a tree -/
def wgt (k x : Int) : Int := if 0 < x then k + 1 - x else 0
def wOf (l : List Int) : List Int := (l.map (wgt (mxL l))).take (lastU l)
def fillL (f : Int → Int) (l : List Int) (k : Nat) : List Int := (l.take k).map f ++ List.replicate (l.length - k) 0
theorem fillL_zero (f : Int → Int) (l : List Int) : fillL f l 0 = List.replicate l.length 0 := by simp [fillL]
theorem fillL_all (f : Int → Int) {l : List Int} {k : Nat} (h : l.length ≤ k) : fillL f l k = l.map f := by
 simp [fillL,List.take_of_length_le h,show l.length - k = 0 by omega]
theorem fillL_len (f : Int → Int) {l : List Int} {k : Nat} (h : k ≤ l.length) : (fillL f l k).length = l.length := by simp [fillL];omega
theorem fillL_set {f : Int → Int} {l : List Int} {k : Nat} {x : Int} (h : l[k]? = some x) : (fillL f l k).set k (f x) = fillL f l (k + 1) := by
 have hk := (List.getElem?_eq_some_iff.1 h).1
 have hl : ((l.take k).map f).length = k := by simp;omega
 unfold fillL
 rw [List.set_append_right _ _ (by omega),hl,Nat.sub_self,take_next h,show l.length - k = (l.length - (k + 1)) + 1 by omega,List.replicate_succ,List.set_cons_zero]
 simp
theorem fillL_same {f : Int → Int} {l : List Int} {k : Nat} {x : Int} (h : l[k]? = some x) (h0 : f x = 0) : fillL f l (k + 1) = fillL f l k := by
 rw [← fillL_set h,h0]
 have hk := (List.getElem?_eq_some_iff.1 h).1
 have hl : ((l.take k).map f).length = k := by simp;omega
 unfold fillL
 rw [List.set_append_right _ _ (by omega),hl,Nat.sub_self,show l.length - k = (l.length - (k + 1)) + 1 by omega,List.replicate_succ,List.set_cons_zero]

/-! ### The tree of weights -/
def sumW : List Int → Nat
 | [] => 0
 | x :: l => (if 0 < x then 2 ^ (x.toNat - 1) else 0) + sumW l
theorem sumW_append (a b : List Int) : sumW (a ++ b) = sumW a + sumW b := by
 induction a with
 | nil => simp [sumW]
 | cons x a ih => simp only [List.cons_append,sumW,ih];omega
theorem sumW_snoc (l : List Int) (x : Int) : sumW (l ++ [x]) = sumW l + (if 0 < x then 2 ^ (x.toNat - 1) else 0) := by
 rw [sumW_append];simp [sumW]
theorem sumW_take {l : List Int} {k : Nat} {x : Int} (h : l[k]? = some x) : sumW (l.take (k + 1)) = sumW (l.take k) + (if 0 < x then 2 ^ (x.toNat - 1) else 0) := by
 rw [take_next h,sumW_snoc]
theorem sumW_le {l : List Int} (h : l.all (finM 11) = true) : sumW l ≤ 1024 * l.length := by
 induction l with
 | nil => simp [sumW]
 | cons x l ih =>
  simp only [List.all_cons,Bool.and_eq_true] at h
  have h1 := ih h.2
  have h2 := finM_iff.1 h.1
  simp only [sumW,List.length_cons]
  split
  ·have : 2 ^ (x.toNat - 1) ≤ 2 ^ 10 := Nat.pow_le_pow_right (by decide) (by omega)
   omega
  ·omega
def lenW (w : List Int) : Bool := decide (0 < w.length) && decide (w.length < 256)
def kW (w : List Int) : Nat := Go.Lib.bitLen (sumW w)
def restW (w : List Int) : Nat := 2 ^ kW w - sumW w
def vW (w : List Int) : Nat := Go.Lib.bitLen (restW w)
def okW (w : List Int) : Bool := ((lenW w && w.all (finM 11)) && (decide (0 < sumW w) && (decide (kW w ≤ 11) && decide (restW w = 2 ^ (vW w - 1))))) && (w ++ [(vW w : Int)]).contains 1
def trL (k : Nat) (l : List Int) : List Int := l.map (wgt k)
def tOf (w : List Int) : List Int := trL (kW w) (w ++ [(vW w : Int)])

theorem bitLen_zero : Go.Lib.bitLen 0 = 0 := rfl
theorem bitLen_le {n k : Nat} (hn : n < 18446744073709551616) : k < Go.Lib.bitLen n ↔ 2 ^ k ≤ n := by
 rcases Nat.eq_zero_or_pos n with rfl | h0
 ·rw [bitLen_zero]
  have := Nat.two_pow_pos k
  omega
 ·rw [bitLen_log h0 hn,← Nat.le_log2 (by omega)]
  omega
theorem bitLen_lt {n : Nat} (hn : n < 18446744073709551616) : n < 2 ^ Go.Lib.bitLen n := by
 have := (bitLen_le (k := Go.Lib.bitLen n) hn)
 omega
theorem bitLen_top {n k : Nat} (hn : n < 18446744073709551616) (h : n < 2 ^ k) : Go.Lib.bitLen n ≤ k := by
 have := (bitLen_le (k := k) hn)
 omega

theorem sums {w : List Int} (h1 : lenW w = true) (h2 : w.all (finM 11) = true) : sumW w ≤ 262144 ∧ kW w ≤ 19 ∧ sumW w < 2 ^ kW w ∧ 2 ^ kW w ≤ 524288 ∧ 0 < restW w ∧ restW w ≤ 524288 ∧ restW w + sumW w = 2 ^ kW w ∧ 0 < vW w ∧ vW w ≤ 20 := by
 have hs := sumW_le h2
 have hl : w.length < 256 := by simp [lenW] at h1;exact h1.2
 have e1 : (2 : Nat) ^ 19 = 524288 := by decide
 have e2 : (2 : Nat) ^ 20 = 1048576 := by decide
 have a1 : sumW w ≤ 262144 := by omega
 have a2 : kW w ≤ 19 := bitLen_top (by omega) (by omega)
 have a3 : sumW w < 2 ^ kW w := bitLen_lt (by omega)
 have a4 : 2 ^ kW w ≤ 2 ^ 19 := Nat.pow_le_pow_right (by decide) a2
 have a5 : restW w + sumW w = 2 ^ kW w := by unfold restW;omega
 refine ⟨a1,a2,a3,by omega,by omega,by omega,a5,?_,bitLen_top (by omega) (by omega)⟩
 have := (bitLen_le (n := restW w) (k := 0) (by omega)).2 (by rw [Nat.pow_zero];omega)
 exact this
end

section
open Go.RowKit

def Fresh (base : Nat) (v : Value) : Prop := ∀ ad n c,v = .slice (some ad) n c → base ≤ ad.block
theorem Fresh.nil {b : Nat} : Fresh b (.slice none 0 0) := fun _ _ _ h => by cases h
theorem Fresh.mono {b b' : Nat} {v : Value} (h : Fresh b v) (hb : b' ≤ b) : Fresh b' v := fun ad n c e => Nat.le_trans hb (h ad n c e)

theorem wis_yes {b : Bool} (h : b = true) (n : Int) (w : World) : Calls Tryz.prog 125 #[.bool b,.int .i64 n] w fun e w' => e = .returned (.tuple #[]) ∧ w = w' := by
 subst h
 go_enter Tryz.func125,Tryz.ntmps125
 go_wp2
 go_end0
 exact ⟨rfl,rfl⟩
theorem wis_no {b : Bool} (h : b = false) (n : Int) (w : World) : Calls Tryz.prog 125 #[.bool b,.int .i64 n] w fun e w' => e = .panicked [raisedBy n false] ∧ w = w' := by
 subst h
 go_enter Tryz.func125,Tryz.ntmps125
 go_wp2
 exact ⟨rfl,rfl,rfl⟩
theorem wmust_yes (bf : Nat) (w : World) (h : Blk w bf #[.int .i64 0] 33) : Calls Tryz.prog 143 #[.slice (some ⟨bf,0,none⟩) 1 1] w fun e w' => e = .returned (.tuple #[]) ∧ w = w' := by
 obtain ⟨c0,-⟩ := h.one
 go_enter Tryz.func143,Tryz.ntmps143
 go_wp2_with fail
 refine wp_loop_rounds 2 ?_
 rw [rounds_succ]
 go_wp2_with fail
 rw [rounds_succ]
 go_wp2_with fail
 go_end0
 exact ⟨rfl,rfl⟩
theorem wmust_no (n : Int) (hn : n ≠ 0) (bf : Nat) (w : World) (h : Blk w bf #[.int .i64 n] 33) : Calls Tryz.prog 143 #[.slice (some ⟨bf,0,none⟩) 1 1] w fun e w' => e = .panicked [raisedBy n false] ∧ w = w' := by
 obtain ⟨c0,-⟩ := h.one
 go_enter Tryz.func143,Tryz.ntmps143
 go_wp2_with fail
 refine wp_loop_rounds 1 ?_
 rw [rounds_succ]
 go_wp2_with fail
 exact ⟨rfl,rfl,rfl⟩

theorem wcaught_idle (p : Addr) (f : Value) (w : World) :
  CallsD Tryz.prog 107 #[.pointer (some p),f] .returning w fun e u' w' => e = .returned (.tuple #[]) ∧ u' = .returning ∧ w' = w := by
 refine callsD_of_wpS Tryz.func107 rfl fun c₀ cs hu => ?_
 simp only [Tryz.ntmps107,List.size_toArray,List.length_cons,List.length_nil,Nat.reduceAdd,Nat.reduceSub,Array.replicate_succ,Array.replicate_zero,List.push_toArray,List.append_toArray,List.nil_append,List.cons_append]
 apply wpS_seq
 apply wpS_region
 simp [wpOpsS,go_sem,recoverD,hu,Exit.thenS]
 refine wpS_of_wp ?_
 have HU := Lib.hid hu
 clear hu
 go_wp2
 refine ⟨rfl,.returning,?_,.tuple #[],by simp [results,Tryz.results107],rfl,rfl,rfl⟩
 have hu := HU.out
 cases c₀
 simp_all

set_option maxHeartbeats 600000 in
theorem wcaught_dec (pe po : Nat) (n : Int) (x z : Value) (te tq : TypeId) (older : List PanicEntry) (w : World) (he : Blk w pe #[z] te) (ho : Blk w po #[x] tq) (h1 : pe ≠ po) :
  CallsD Tryz.prog 107 #[.pointer (some ⟨pe,0,none⟩),.func (.func 123) #[] #[.pointer (some ⟨po,0,none⟩)]] (.panicking (raisedBy n false :: older)) w fun e u' w' =>
   e = .returned (.tuple #[]) ∧ u' = .panicking (raisedBy n true :: older) ∧ w' = (w.setCell ⟨po,0,none⟩ (.slice none 0 0)).setCell ⟨pe,0,none⟩ (.int .i64 n) := by
 obtain ⟨c0,f0⟩ := he.one
 obtain ⟨c1,f1⟩ := ho.one
 have hta : ∀ w : World,(Instr.typeAssert (.iface 33 (.int .i64 n)) 20 33 true).run Tryz.prog w = .ok (.tuple #[.int .i64 n,.bool true]) w := fun _ => by kernel_rfl
 have h1' := h1.symm
 refine callsD_of_wpS Tryz.func107 rfl fun c₀ cs hu => ?_
 simp only [Tryz.ntmps107,List.size_toArray,List.length_cons,List.length_nil,Nat.reduceAdd,Nat.reduceSub,Array.replicate_succ,Array.replicate_zero,List.push_toArray,List.append_toArray,List.nil_append,List.cons_append]
 apply wpS_seq
 apply wpS_region
 simp [wpOpsS,go_sem,recoverD,hu,Exit.thenS,raisedBy]
 refine wpS_of_wp ?_
 have HU := Lib.hid hu
 clear hu
 go_wp2
 go_end0
 go_wp2
 refine ⟨rfl,.panicking (raisedBy n true :: older),?_,.tuple #[],by simp [results,Tryz.results107],rfl,rfl,rfl⟩
 simp [raisedBy]

theorem ints_reads {w : World} {B m : Nat} {h : List Int} {T : TypeId} (hb : Blk w B (ints h) T) (hm : m ≤ h.length) : RdI .i64 w (.slice (some ⟨B,0,none⟩) m m) (h.take m) :=
 ⟨_,_,_,rfl,by simp;omega,(fun h => by cases h),fun h0 => ⟨Nat.le_refl _,B,0,rfl,hb.lt,fun i x hx => by
  rw [List.getElem?_take] at hx
  split at hx
  ·rw [Nat.zero_add,hb.cell,ints_get hx]
  ·cases hx⟩⟩
theorem Tryz.infoInt : (Tryz.prog.info? 3).map (fun i => (i.zero,i.size,i.bytes)) = some (some (.int .i64 0),1,8) := by kernel_rfl
theorem make_ints (n : Nat) (hn : n ≤ 1000000) (w : World) : (Instr.makeSlice 25 (.int .i64 (n : Int)) (.int .i64 (n : Int))).run Tryz.prog w = .ok (.slice (some ⟨w.heap.size,0,none⟩) n n) (w.alloc (.cells (ints (List.replicate n 0)) 3)) := by
 obtain ⟨i0,hi,hz0,hz1,hz2⟩ := info_parts Tryz.infoInt
 have hr := run_make (P := Tryz.prog) w 25 3 i0 (.int .i64 0) Tryz.underlying25 hi hz0 .i64 .i64 n n (by omega) (Int.le_refl _) (by rw [hz2];omega) (by omega)
 simp only [Int.toNat_natCast] at hr
 rw [hr]
 have e : (madeCells (Value.int .i64 0).cells (n * i0.size)) = ints (List.replicate n 0) := by
  rw [hz1,Nat.mul_one]
  apply Array.toList_inj.1
  exact (toList_madeCells_one _ n).trans (by simp [ints])
 rw [e]

set_option maxHeartbeats 2000000 in
theorem wof_yes (v : Value) (l : List Int) (w : World) (hv : RdI .i64 w v l) (hn : l.length ≤ 1000000) (ht : treeL l = true) :
  Calls Tryz.prog 109 #[v] w fun e w' => ∃ v',e = .returned v' ∧ RdI .i64 w' v' (wOf l) ∧ Fresh w.heap.size v' ∧ Keeps w w' [] := by
 have HML := Lib.hid (fun w' (k : Keeps w w' []) => cmaxLen_yes v l w' (hv.keeps k) hn ht)
 have HV := Lib.hid hv
 obtain ⟨A0,n,cp0,rfl,hnl,-⟩ := hv.form
 have HN := Lib.hid hnl
 have hn' : n ≤ 256 := by have := (treeL_iff.1 ht).1;omega
 have HB := Lib.hid (fun x hx => (treeL_iff.1 ht).2.1 x hx)
 have hM0 := mxL_nonneg l
 have hM1 : mxL l ≤ 11 := mxL_le (by omega) (fun x hx => (HB.out x hx).2)
 have HE : Hid (wOf l = (fillL (wgt (mxL l)) l n).take (lastU (l.take n))) := by
  show _ = _
  rw [wOf,fillL_all _ (by omega),List.take_of_length_le (show l.length ≤ n by omega)]
 have HFL : Hid (∀ k,k ≤ n → (fillL (wgt (mxL l)) l k).length = n) := fun k hk => by rw [fillL_len _ (by have := HN.out;omega),HN.out]
 have hlast : lastU (l.take n) ≤ n := by have := lastU_le (l.take n);simp at this;omega
 have HST : Hid (∀ k x,l[k]? = some x → 0 < x → (fillL (wgt (mxL l)) l k).set k (mxL l + 1 - x) = fillL (wgt (mxL l)) l (k + 1)) := fun k x hx h0 => by
  have := fillL_set (f := wgt (mxL l)) hx
  rw [← this,wgt,if_pos h0]
 have HSN : Hid (∀ k x,l[k]? = some x → ¬ 0 < x → fillL (wgt (mxL l)) l (k + 1) = fillL (wgt (mxL l)) l k) := fun k x hx h0 => fillL_same hx (by rw [wgt,if_neg h0])
 have HZ : Hid (fillL (wgt (mxL l)) l 0 = List.replicate n 0) := by show _ = _;rw [fillL_zero,HN.out]
 generalize wgt (mxL l) = F at *
 obtain ⟨M,hM⟩ : ∃ M,M = mxL l := ⟨_,rfl⟩
 rw [← hM] at hM0 hM1 HST HML
 have hmk : ∀ w,(Instr.makeSlice 25 (.int .i64 (n : Int)) (.int .i64 (n : Int))).run Tryz.prog w = .ok (.slice (some ⟨w.heap.size,0,none⟩) n n) (w.alloc (.cells (ints (List.replicate n 0)) 3)) := make_ints n (by omega)
 clear hv hnl hn ht hM
 go_enter Tryz.func109,Tryz.ntmps109
 go_wp2_with fail
 refine (HML.out _ (Keeps.refl w [])).mono ?_
 rintro e w1 ⟨rfl,k1⟩
 go_wp2_with (go_at_call 143;refine (wmust_yes _ _ (Blk.newA rfl)).mono ?_;rintro e w5 ⟨rfl,rfl⟩)
 have b0 := Blk.new (w1.alloc (.cells #[.int .i64 0] 33)) (ints (List.replicate n 0)) 3
 have k0 := ((k1.alloc (.cells #[.int .i64 0] 33)).alloc (.cells (ints (List.replicate n 0)) 3))
 simp only [World.size_alloc] at b0
 rw [← HZ.out] at b0 k0 ⊢
 obtain ⟨G,hG⟩ : ∃ G,G = w1.heap.size + 1 := ⟨_,rfl⟩
 rw [← hG] at b0 ⊢
 have hGw : w.heap.size ≤ G := by have := k1.size;omega
 clear hG HML k1
 generalize (w1.alloc (.cells #[.int .i64 0] 33)).alloc (.cells (ints (fillL F l 0)) 3) = w2 at *
 have HF0 := Lib.hid hmk
 clear hmk
 go_loopw [6,22] (fun m i wr => ∃ k : Nat,k ≤ n ∧ i = .int .i64 k ∧ m = .int .i64 (lastU (l.take k) : Nat) ∧ Blk wr G (ints (fillL F l k)) 3 ∧ Keeps w wr []) (fun _ i _ => n - (intOf i).toNat)
 case atStart => exact ⟨0,Nat.zero_le _,rfl,rfl,b0,k0⟩
 case round =>
  clear b0 k0
  obtain ⟨k,hk,rfl,rfl,bk,kk⟩ := hrel
  by_cases hlt : k < n
  ·obtain ⟨x,hx⟩ : ∃ x,l[k]? = some x := ⟨_,List.getElem?_eq_getElem (by have := HN.out;omega)⟩
   obtain ⟨b,o,rfl,hb,hc⟩ := HV.out.at hx
   have hc' := (kk.cell (p := ⟨b,o + k,none⟩) hb (by simp)).trans hc
   have hcap := HV.out.cap
   have hxb := HB.out x (List.mem_of_getElem? hx)
   have hkn : (k : Int) < (n : Int) := by omega
   have HLU := Lib.hid (lastU_take hx)
   have hlb := HFL.out k (by omega)
   obtain ⟨y,hy⟩ : ∃ y,(fillL F l k)[k]? = some y := ⟨_,List.getElem?_eq_getElem (by omega)⟩
   have hbc := (bk.cell k).trans (ints_get hy)
   have hbf := bk.frozen k
   have hGl := bk.lt
   have hst := Lib.hid (HST.out k x hx)
   have hsn := Lib.hid (HSN.out k x hx)
   have bset : ∀ y : Int,Blk (wr.setCell ⟨G,k,none⟩ (.int .i64 y)) G (ints ((fillL F l k).set k y)) 3 := fun y => by rw [← ints_set];exact bk.set k (.int .i64 y)
   generalize lastU (l.take k) = U at *
   clear hx hc hy hlb
   by_cases h0 : 0 < x
   ·go_wp2_with fail
    go_roundw
    case rel => exact ⟨k + 1,by omega,by go_num,by rw [HLU.out,if_pos h0],by rw [← hst.out h0];exact bset _,kk.setCell (.inl (by dsimp only;omega)) _⟩
    case measure => simp [intOf];omega
   ·have d0 : decide (0 < x) = false := decide_eq_false h0
    go_wp2_with fail
    go_roundw
    case rel => exact ⟨k + 1,by omega,by go_num,by rw [HLU.out,if_neg h0],by rw [hsn.out (by omega)];exact bk,kk⟩
    case measure => simp [intOf];omega
  ·obtain rfl : k = n := by omega
   have HR := Lib.hid (ints_reads bk (m := lastU (l.take k)) (by rw [HFL.out k (by omega)];exact hlast))
   rw [← HE.out] at HR
   clear bk
   generalize lastU (l.take k) = U at *
   go_wp2_with fail
   go_ret
   exact ⟨_,rfl,HR.out,(fun ad m c he => by cases he;exact hGw),kk⟩
end

section
open Go.RowKit

theorem own_freshB {w : World} {base : Nat} {v : Value} {l : List Int} (h : OwnB w base v l) : Fresh base v := fun ad n c e => by
 subst e
 exact (h.lt ad.block rfl).1

structure Cur (w : World) (p : Nat) (v : Value) (B : List Int) (k : Nat) : Prop where
 blk : Blk w p #[v,.int .i64 (k : Int)] 127
 rd : RdI .u8 w v B
 le : k ≤ B.length
 len : B.length ≤ 1000000
 ne : ∀ ad n c,v = .slice (some ad) n c → 0 < n → ad.block ≠ p
 byte : ∀ x ∈ B,0 ≤ x ∧ x ≤ 255

theorem Cur.keeps {w w' : World} {p k : Nat} {v : Value} {B : List Int} (h : Cur w p v B k) (kk : Keeps w w' []) : Cur w' p v B k :=
 ⟨h.blk.keeps kk (by simp),h.rd.keeps kk,h.le,h.len,h.ne,h.byte⟩
theorem Cur.keepsS {w w' : World} {p k : Nat} {v : Value} {B : List Int} {S : List Nat} (h : Cur w p v B k) (kk : Keeps w w' S) (hp : p ∉ S) (hv : ∀ ad n c,v = .slice (some ad) n c → 0 < n → ad.block ∉ S) : Cur w' p v B k :=
 ⟨h.blk.keeps kk hp,h.rd.keepsS kk hv,h.le,h.len,h.ne,h.byte⟩
theorem Cur.set {w : World} {p k : Nat} {v : Value} {B : List Int} (h : Cur w p v B k) {k' : Nat} (hk : k' ≤ B.length) : Cur (w.setCell ⟨p,1,none⟩ (.int .i64 (k' : Int))) p v B k' := by
 refine ⟨by have := h.blk.set 1 (.int .i64 (k' : Int));simpa using this,?_,hk,h.len,h.ne,h.byte⟩
 exact h.rd.keepsS (S := [p]) ((Keeps.refl w [p]).setCell (.inr (by simp)) _) (fun ad n c e hn hm => h.ne ad n c e hn (by simpa using hm))
theorem Cur.old {w : World} {p k : Nat} {v : Value} {B : List Int} (h : Cur w p v B k) : p < w.heap.size ∧ ∀ ad n c,v = .slice (some ad) n c → 0 < n → ad.block < w.heap.size := by
 refine ⟨h.blk.lt,fun ad n c e hn => ?_⟩
 subst e
 obtain ⟨b,o,he,hb,-⟩ := h.rd.addr hn
 cases he
 exact hb

theorem Cur.cells {w : World} {p k : Nat} {v : Value} {B : List Int} (h : Cur w p v B k) : w.cell? ⟨p,0,none⟩ = some v ∧ w.cell? ⟨p,1,none⟩ = some (.int .i64 (k : Int)) ∧ w.frozen? ⟨p,1,none⟩ = false :=
 ⟨h.blk.cell 0,h.blk.cell 1,h.blk.frozen 1⟩

theorem left_any (p k : Nat) (v : Value) (B : List Int) (w : World) (h : Cur w p v B k) :
  Calls Tryz.prog 98 #[.pointer (some ⟨p,0,none⟩)] w fun e w' => e = .returned (.int .i64 ((B.length : Int) - (k : Int))) ∧ ∃ m,w' = w.drewN m := by
 obtain ⟨c0,c1,-⟩ := h.cells
 have hle := h.le
 have hlen := h.len
 obtain ⟨ad,n,c,rfl,rfl,-⟩ := h.rd.form
 clear h
 go_enter Tryz.func98,Tryz.ntmps98
 go_wp2_with fail
 go_quiet (fail)
 go_wp2_with fail
 go_ret
 exact ⟨rfl,_,rfl⟩

def CurEnd (w : World) (p : Nat) (v : Value) (B : List Int) (x : Value) (n : Int) (k' : Nat) (e : Ending) (w' : World) : Prop :=
 e = .returned (.tuple #[x,.int .i64 n]) ∧ Cur w' p v B k' ∧ Keeps w w' [p]

theorem byte1_none (p h k : Nat) (v : Value) (B : List Int) (w : World) (hc : Cur w p v B k) (hb : Blk w h #[.pointer (some ⟨p,0,none⟩)] 71) (hk : k = B.length) :
  Calls Tryz.prog 162 #[.pointer (some ⟨h,0,none⟩)] w (CurEnd w p v B (.int .u8 0) 3 k) := by
 have HC := Lib.hid hc
 have HL := Lib.hid (left_any p k v B w hc)
 obtain ⟨b0,-⟩ := hb.one
 have hz : ((B.length : Int) - (k : Int) == 0) = true := by simp;omega
 clear hc hb hk
 go_enter Tryz.func162,Tryz.ntmps162
 go_wp2_with (refine HL.out.mono ?_;rintro e w1 ⟨rfl,m,rfl⟩)
 exact bodyPost_ret (v := .tuple #[.int .u8 0,.int .i64 3]) (by simp [results,Tryz.results162]) rfl ⟨rfl,HC.out.keeps ((Keeps.refl _ _).drewN m),(Keeps.refl _ _).drewN m⟩

set_option maxHeartbeats 1000000 in
theorem byte1_some (p h k : Nat) (v : Value) (B : List Int) (w : World) (hc : Cur w p v B k) (hb : Blk w h #[.pointer (some ⟨p,0,none⟩)] 71) (hne : h ≠ p) (x : Int) (hx : B[k]? = some x) :
  Calls Tryz.prog 162 #[.pointer (some ⟨h,0,none⟩)] w (CurEnd w p v B (.int .u8 x) 0 (k + 1)) := by
 have HL := Lib.hid (left_any p k v B w hc)
 have hk := (List.getElem?_eq_some_iff.1 hx).1
 have hlen := hc.len
 have hnz : ((B.length : Int) - (k : Int) == 0) = false := by simp;omega
 obtain ⟨ad,n,c,rfl,hn,-⟩ := hc.rd.form
 obtain ⟨b,o,rfl,hbl,hcx⟩ := hc.rd.at hx
 have hcap := hc.rd.cap
 have hbp : b ≠ p := hc.ne _ _ _ rfl (by omega)
 have hin : (k : Int) < (n : Int) := by omega
 obtain ⟨d0,-⟩ := hb.one
 obtain ⟨c0,c1,f1⟩ := hc.cells
 have NC : Hid (∀ m,Cur ((w.drewN m).setCell ⟨p,1,none⟩ (.int .i64 ((k : Int) + 1))) p (.slice (some ⟨b,o,none⟩) n c) B (k + 1)) := fun m => by
  have := (hc.keeps ((Keeps.refl _ _).drewN m)).set (k' := k + 1) (by omega)
  simpa using this
 have hpb := hbp.symm
 have hph := hne.symm
 have HCL := Lib.hid hc.blk.lt
 clear hc hb hx
 go_enter Tryz.func162,Tryz.ntmps162
 go_wp2_with (refine HL.out.mono ?_;rintro e w1 ⟨rfl,m,rfl⟩)
 go_quiet (fail)
 go_wp2_with fail
 exact bodyPost_ret (v := .tuple #[.int .u8 x,.int .i64 0]) (by simp [results,Tryz.results162]) rfl ⟨rfl,(NC.out m).keeps ((Keeps.refl _ _).drewN nq),(((Keeps.refl _ _).drewN m).setCell (.inr (by simp)) _).drewN nq⟩

def byteX (B : List Int) (k : Nat) : Int := (B[k]?).getD 0
def byteE (B : List Int) (k : Nat) : Int := if k < B.length then 0 else 3
def byteK (B : List Int) (k : Nat) : Nat := if k < B.length then k + 1 else k

theorem byte1_any (p h k : Nat) (v : Value) (B : List Int) (w : World) (hc : Cur w p v B k) (hb : Blk w h #[.pointer (some ⟨p,0,none⟩)] 71) (hne : h ≠ p) :
  Calls Tryz.prog 162 #[.pointer (some ⟨h,0,none⟩)] w (CurEnd w p v B (.int .u8 (byteX B k)) (byteE B k) (byteK B k)) := by
 by_cases hk : k < B.length
 ·have e1 : byteE B k = 0 := if_pos hk
  have e2 : byteK B k = k + 1 := if_pos hk
  have hx : B[k]? = some (byteX B k) := by simp [byteX,hk]
  rw [e1,e2]
  exact byte1_some p h k v B w hc hb hne _ hx
 ·have e1 : byteE B k = 3 := if_neg hk
  have e2 : byteK B k = k := if_neg hk
  have e3 : byteX B k = 0 := by simp [byteX,List.getElem?_eq_none (Nat.le_of_not_lt hk)]
  rw [e1,e2,e3]
  exact byte1_none p h k v B w hc hb (by have := hc.le;omega)
end

end Go.Proofs.YtcmagccfagijlaaGreat
