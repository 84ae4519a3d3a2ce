/-
  The tree of weights is a tree. No program is in sight here.
  The tree that the weights of a tree give is that tree, without zeros at its end. (No walk is done here.)
  Walks over package weights: described at format 1, EncodeCoded, Encode.
  Walks over package weights: Encode. (Printed by mkYf.py.)
  Walks over the reference of package dict: sameInts, whether equal or not.
  Walks over the reference of package dict: the tables' Same, whether equal or not.
  Walks over the reference of package dict: Same, whether equal or not.
  Walks over package dict: plain, table, Valid, whether valid or not. (Printed by mkEe.py.)
  Plain: a valid dictionary is read back from its bytes; what is read is a valid dictionary. No program in sight.
  Walks over packages num and dict: PutWord; Put's deferred function where nothing panics.
  Walks over package dict: Valid, whether valid or not. (Printed by mkEe.py.)
  Walks over package dict: plain and Valid where the dictionary is valid. (Printed by mkGz.py.)
-/
import Derived.Test.YtcmagccfagijlaaGreatQ4
import Derived.Test.YtcmagccfagijlaaGreatQ26
import Derived.Test.YtcmagccfagijlaaGreatQ16
import Derived.Test.YtcmagccfagijlaaGreatQ1
import Derived.Test.YtcmagccfagijlaaGreatQ6
import Derived.Test.YtcmagccfagijlaaGreatQ7
import Derived.Test.YtcmagccfagijlaaGreatQ3
import Derived.Test.YtcmagccfagijlaaGreatQ2
import Derived.Test.YtcmagccfagijlaaGreatQ20
import Derived.Test.YtcmagccfagijlaaGreatQ14
namespace Go.Proofs.YtcmagccfagijlaaGreat
set_option linter.unusedVariables false
set_option linter.unusedSimpArgs false
set_option linter.unusedSectionVars false
set_option maxRecDepth 100000
section
open Go.RowKit

theorem sumW_mem {l : List Int} {x : Int} (h : x ∈ l) (h0 : 0 < x) : 2 ^ (x.toNat - 1) ≤ sumW l := by
 induction l with
 | nil => cases h
 | cons y l ih =>
  rcases List.mem_cons.1 h with rfl | h
  ·simp only [sumW,if_pos h0];omega
  ·have := ih h;simp only [sumW];omega
theorem sumW_some {l : List Int} (h : 0 < sumW l) : ∃ x ∈ l,0 < x := by
 induction l with
 | nil => simp [sumW] at h
 | cons y l ih =>
  by_cases hy : 0 < y
  ·exact ⟨y,by simp,hy⟩
  ·simp only [sumW,if_neg hy,Nat.zero_add] at h
   obtain ⟨x,hx,h0⟩ := ih h
   exact ⟨x,by simp [hx],h0⟩
theorem sum11_tr {k : Nat} (hk : k ≤ 11) : ∀ (m : List Int),(∀ x ∈ m,x ≤ k) → sum11 (trL k m) = 2 ^ (11 - k) * sumW m
 | [],_ => by simp [trL,sum11,sumW]
 | x :: m,h => by
  have ih := sum11_tr hk m (fun y hy => h y (by simp [hy]))
  have hx := h x (by simp)
  simp only [trL] at ih
  simp only [trL,List.map_cons,sum11,sumW,ih,Nat.mul_add]
  congr 1
  by_cases h0 : 0 < x
  ·have e1 : wgt k x = k + 1 - x := if_pos h0
   rw [e1,if_pos (by omega),if_pos h0,← Nat.pow_add]
   congr 1
   omega
  ·have e1 : wgt k x = 0 := if_neg h0
   rw [e1,if_neg (by omega),if_neg h0,Nat.mul_zero]

theorem tOf_len (l : List Int) : (tOf l).length = l.length + 1 := by simp [tOf,trL]
theorem tree_of_ok {l : List Int} (h : okW l = true) : treeL (tOf l) = true := by
 simp only [okW,Bool.and_eq_true,decide_eq_true_eq] at h
 obtain ⟨⟨⟨h1,h2⟩,h3,h4,h5⟩,-⟩ := h
 obtain ⟨s1,s2,s3,s4,s5,s6,s7,s8,s9⟩ := sums h1 h2
 have hl : l.length < 256 := by simp [lenW] at h1;exact h1.2
 have hx : ∀ x ∈ l,0 ≤ x ∧ x ≤ kW l := fun x hx => by
  have hb := finM_iff.1 (List.all_eq_true.1 h2 x hx)
  refine ⟨hb.1,?_⟩
  by_cases h0 : 0 < x
  ·have := sumW_mem hx h0
   have h7 : 2 ^ (x.toNat - 1) < 2 ^ kW l := by omega
   have := (Nat.pow_lt_pow_iff_right (by decide : 1 < 2)).1 h7
   omega
  ·omega
 have hv : vW l ≤ kW l := by
  have h7 : 2 ^ (vW l - 1) < 2 ^ kW l := by omega
  have := (Nat.pow_lt_pow_iff_right (by decide : 1 < 2)).1 h7
  omega
 have hall : ∀ x ∈ l ++ [(vW l : Int)],0 ≤ x ∧ x ≤ kW l := fun x hm => by
  rcases List.mem_append.1 hm with hm | hm
  ·exact hx x hm
  ·have := List.mem_singleton.1 hm;omega
 rw [treeL_iff]
 refine ⟨by rw [tOf_len];omega,?_,?_,?_⟩
 ·intro y hy
  obtain ⟨x,hm,rfl⟩ := List.mem_map.1 hy
  have := hall x hm
  unfold wgt
  split <;> omega
 ·obtain ⟨x,hm,h0⟩ := sumW_some h3
  have hp : 0 < (usedL (trL (kW l) l)).length := usedL_pos.2 ⟨wgt (kW l) x,List.mem_map.2 ⟨x,hm,rfl⟩,by
   have := hx x hm
   unfold wgt
   rw [if_pos h0];omega⟩
  have e : tOf l = trL (kW l) l ++ [wgt (kW l) (vW l)] := by simp [tOf,trL]
  rw [e,usedL_snoc,if_pos (by unfold wgt;rw [if_pos (by omega)];omega),List.length_append]
  simp only [List.length_singleton]
  omega
 ·show sum11 (trL (kW l) (l ++ [(vW l : Int)])) = 2048
  rw [sum11_tr h4 _ (fun x hm => (hall x hm).2),sumW_snoc,if_pos (by omega)]
  have e : sumW l + 2 ^ ((vW l : Int).toNat - 1) = 2 ^ kW l := by
   rw [Int.toNat_natCast,← h5];omega
  rw [e,← Nat.pow_add,show 11 - kW l + kW l = 11 by omega]
end

section
open Go.RowKit

theorem lastU_spec (l : List Int) (h : ∃ x ∈ l,0 < x) : (∃ x,l[lastU l]? = some x ∧ 0 < x) ∧ ∀ i x,lastU l < i → l[i]? = some x → ¬ 0 < x := by
 suffices H : ∀ k,k ≤ l.length → (∃ x ∈ l.take k,0 < x) → (∃ x,l[lastU (l.take k)]? = some x ∧ 0 < x) ∧ lastU (l.take k) < k ∧ ∀ i x,lastU (l.take k) < i → i < k → l[i]? = some x → ¬ 0 < x by
  have := H l.length (Nat.le_refl _) (by rw [List.take_length];exact h)
  rw [List.take_length] at this
  exact ⟨this.1,fun i x hi hx => this.2.2 i x hi (List.getElem?_eq_some_iff.1 hx).1 hx⟩
 intro k
 induction k with
 | zero => intro _ h;simp at h
 | succ k ih =>
  intro hk hex
  obtain ⟨x,hx⟩ : ∃ x,l[k]? = some x := ⟨_,List.getElem?_eq_getElem (by omega)⟩
  rw [lastU_take hx]
  by_cases h0 : 0 < x
  ·rw [if_pos h0]
   exact ⟨⟨x,hx,h0⟩,by omega,fun i y hi hi2 _ => by omega⟩
  ·rw [if_neg h0]
   have hex' : ∃ y ∈ l.take k,0 < y := by
    obtain ⟨y,hy,hy0⟩ := hex
    rw [take_next hx] at hy
    rcases List.mem_append.1 hy with hy | hy
    ·exact ⟨y,hy,hy0⟩
    ·rw [List.mem_singleton.1 hy] at hy0;exact absurd hy0 h0
   obtain ⟨i1,i2,i3⟩ := ih (by omega) hex'
   refine ⟨i1,by omega,fun i y hi hi2 hy => ?_⟩
   by_cases hik : i = k
   ·subst hik;rw [hx] at hy;injection hy with hy;rw [← hy];exact h0
   ·exact i3 i y hi (by omega) hy
theorem wgt_wgt {k x : Int} (h0 : 0 ≤ x) (h1 : x ≤ k) : wgt k (wgt k x) = x := by
 unfold wgt
 split
 ·rw [if_pos (by omega)];omega
 ·rw [if_neg (by omega)];omega
theorem sum11_zero {l : List Int} (h : ∀ x ∈ l,¬ 0 < x) : sum11 l = 0 := by
 induction l with
 | nil => rfl
 | cons x l ih => simp only [sum11,if_neg (h x (by simp)),ih (fun y hy => h y (by simp [hy]))]
theorem usedF_none {l : List Int} (i : Nat) (h : ∀ x ∈ l,¬ 0 < x) : usedF i l = [] := by
 induction l generalizing i with
 | nil => rfl
 | cons x l ih => simp only [usedF,if_neg (h x (by simp)),ih (i + 1) (fun y hy => h y (by simp [hy]))]
theorem bitLen_at {n k : Nat} (h1 : 2 ^ k ≤ n) (h2 : n < 2 ^ (k + 1)) (hk : k ≤ 20) : Go.Lib.bitLen n = k + 1 := by
 have h3 : 2 ^ (k + 1) ≤ 2 ^ 21 := Nat.pow_le_pow_right (by decide) (by omega)
 rw [show (2 : Nat) ^ 21 = 2097152 by decide] at h3
 have a := (bitLen_le (n := n) (k := k) (by omega)).2 h1
 have b := bitLen_top (n := n) (k := k + 1) (by omega) h2
 omega

theorem back_of_tree {T : List Int} (h : treeL T = true) : okW (wOf T) = true ∧ tOf (wOf T) = T.take (lastU T + 1) ∧ lastU T < T.length ∧ (∀ i x,lastU T < i → T[i]? = some x → x = 0) ∧ 0 < T.getD (lastU T) 0 := by
 obtain ⟨h1,h2,h3,h4⟩ := treeL_iff.1 h
 have hex : ∃ x ∈ T,0 < x := usedL_pos.1 (by omega)
 obtain ⟨⟨z,hz,hz0⟩,hzero⟩ := lastU_spec T hex
 obtain ⟨m,hm⟩ : ∃ m,lastU T = m := ⟨_,rfl⟩
 rw [hm] at hz hzero
 have hml := (List.getElem?_eq_some_iff.1 hz).1
 have hzT := List.mem_of_getElem? hz
 obtain ⟨K,hK⟩ := Int.eq_ofNat_of_zero_le (mxL_nonneg T)
 have hKge : ∀ x ∈ T,x ≤ (K : Int) := fun x hx => hK ▸ mxL_ge hx
 have hK11 : K ≤ 11 := by have := mxL_le (l := T) (m := 11) (by decide) (fun x hx => (h2 x hx).2);omega
 have hKin : (K : Int) ∈ T := by
  rcases (foldl_max_ge T 0).2.2 with e | e
  ·have e' : mxL T = 0 := e
   have := hKge z hzT
   omega
  ·have e' : mxL T ∈ T := e
   rw [hK] at e';exact e'
 have hz11 := h2 z hzT
 have hzK := hKge z hzT
 have hW : wOf T = (T.take m).map (wgt K) := by rw [wOf,hm,hK,List.map_take]
 have hA : (T.take (m + 1)).map (wgt K) = wOf T ++ [wgt K z] := by rw [take_next hz,List.map_append,hW];rfl
 have hwz : wgt K z = K + 1 - z := if_pos hz0
 -- the sum
 have hdrop : ∀ x ∈ T.drop (m + 1),¬ 0 < x := fun x hx => by
  obtain ⟨j,hj⟩ := List.getElem?_of_mem hx
  rw [List.getElem?_drop] at hj
  exact hzero _ x (by omega) hj
 have hs11 : sum11 (T.take (m + 1)) = 2048 := by
  have e := sum11_append (T.take (m + 1)) (T.drop (m + 1))
  rw [List.take_append_drop,h4,sum11_zero hdrop] at e
  omega
 have hww : ∀ (L : List Int),(∀ x ∈ L,0 ≤ x ∧ x ≤ (K : Int)) → trL K (L.map (wgt K)) = L := fun L hL => by
  unfold trL
  rw [List.map_map]
  conv => rhs;rw [← List.map_id L]
  exact List.map_congr_left (fun x hx => wgt_wgt (hL x hx).1 (hL x hx).2)
 have hbnd : ∀ x ∈ T,0 ≤ x ∧ x ≤ (K : Int) := fun x hx => ⟨(h2 x hx).1,hKge x hx⟩
 have hwb : ∀ x ∈ T,0 ≤ wgt K x ∧ wgt K x ≤ (K : Int) := fun x hx => by
  have := h2 x hx
  have := hKge x hx
  unfold wgt
  split <;> omega
 have hsA : 2 ^ (11 - K) * sumW ((T.take (m + 1)).map (wgt K)) = 2048 := by
  rw [← sum11_tr hK11 _ (fun x hx => by obtain ⟨y,hy,rfl⟩ := List.mem_map.1 hx;exact (hwb y (List.mem_of_mem_take hy)).2),hww _ (fun x hx => hbnd x (List.mem_of_mem_take hx)),hs11]
 have hsA2 : sumW ((T.take (m + 1)).map (wgt K)) = 2 ^ K := by
  have e : 2 ^ (11 - K) * 2 ^ K = 2048 := by rw [← Nat.pow_add,show 11 - K + K = 11 by omega]
  exact Nat.eq_of_mul_eq_mul_left (Nat.pow_pos (by decide) : 0 < 2 ^ (11 - K)) (hsA.trans e.symm)
 -- another one is used
 have hm0 : ∃ y ∈ T.take m,0 < y := by
  have e : usedL T = usedF 0 (T.take m ++ ([z] ++ T.drop (m + 1))) := by
   rw [← List.append_assoc,← take_next hz,List.take_append_drop];rfl
  have e2 : ∀ (A B : List Int) (i : Nat),(usedF i (A ++ B)).length = (usedF i A).length + (usedF (i + A.length) B).length := by
   intro A B
   induction A with
   | nil => intro i;simp [usedF]
   | cons a A ih =>
    intro i
    simp only [List.cons_append,usedF,List.length_cons]
    have := ih (i + 1)
    rw [show i + 1 + A.length = i + (A.length + 1) by omega] at this
    split
    ·simp only [List.length_cons,this];omega
    ·exact this
  have e3 := congrArg List.length e
  rw [e2,e2,usedF_none _ hdrop] at e3
  have e4 : (usedF (0 + (T.take m).length) [z]).length = 1 := by simp [usedF,hz0]
  rw [e4] at e3
  exact (usedF_pos 0).1 (by simp at e3;omega)
 have hmpos : 0 < m := by
  obtain ⟨y,hy,-⟩ := hm0
  by_cases h0 : 0 < m
  ·exact h0
  ·have : m = 0 := by omega
   rw [this] at hy;simp at hy
 -- the sum of the weights but the last
 have hzK1 : 1 ≤ K := by omega
 obtain ⟨e,he⟩ : ∃ e : Nat,z = (e : Int) := Int.eq_ofNat_of_zero_le (by omega)
 have hsW : sumW (wOf T) + 2 ^ (K - e) = 2 ^ K := by
  rw [hA,sumW_snoc,hwz,if_pos (by omega)] at hsA2
  rw [show ((K : Int) + 1 - z).toNat - 1 = K - e by omega] at hsA2
  exact hsA2
 have he1 : 1 ≤ e := by omega
 have heK : e ≤ K := by omega
 have hhalf : 2 ^ (K - e) ≤ 2 ^ (K - 1) := Nat.pow_le_pow_right (by decide) (by omega)
 have hdbl : 2 ^ K = 2 * 2 ^ (K - 1) := by rw [← Nat.pow_succ',show (K - 1).succ = K by omega]
 have hp1 : 1 ≤ 2 ^ (K - e) := Nat.one_le_two_pow
 have hkW : kW (wOf T) = K := by
  have := bitLen_at (n := sumW (wOf T)) (k := K - 1) (by omega) (by rw [show K - 1 + 1 = K by omega];omega) (by omega)
  unfold kW
  omega
 have hrest : restW (wOf T) = 2 ^ (K - e) := by unfold restW;rw [hkW];omega
 have hvW : vW (wOf T) = K - e + 1 := by
  unfold vW
  rw [hrest]
  exact bitLen_at (Nat.le_refl _) (by rw [Nat.pow_succ];omega) (by omega)
 have hvz : ((vW (wOf T) : Nat) : Int) = wgt K z := by rw [hvW,hwz];omega
 have hsplit : wOf T ++ [((vW (wOf T) : Nat) : Int)] = (T.take (m + 1)).map (wgt K) := by rw [hvz,hA]
 have hWlen : (wOf T).length = m := by rw [hW,List.length_map,List.length_take];omega
 refine ⟨?_,?_,by omega,fun i x hi hx => ?_,?_⟩
 ·simp only [okW,Bool.and_eq_true,decide_eq_true_eq]
  refine ⟨⟨⟨?_,?_⟩,?_,?_,?_⟩,?_⟩
  ·simp [lenW,hWlen];omega
  ·rw [List.all_eq_true]
   intro x hx
   rw [hW] at hx
   obtain ⟨y,hy,rfl⟩ := List.mem_map.1 hx
   have := hwb y (List.mem_of_mem_take hy)
   exact finM_iff.2 ⟨this.1,by omega⟩
  ·have : 1 ≤ 2 ^ (K - 1) := Nat.one_le_two_pow
   omega
  ·omega
  ·rw [hrest,hvW,Nat.add_sub_cancel]
  ·rw [hsplit]
   have : (1 : Int) ∈ (T.take (m + 1)).map (wgt K) := by
    refine List.mem_map.2 ⟨(K : Int),?_,by unfold wgt;rw [if_pos (by omega)];omega⟩
    have hkm : (K : Int) ∈ T.take (m + 1) ++ T.drop (m + 1) := by rw [List.take_append_drop];exact hKin
    rcases List.mem_append.1 hkm with hh | hh
    ·exact hh
    ·exact absurd (show (0 : Int) < (K : Int) by omega) (hdrop _ hh)
   exact List.contains_iff_mem.2 this
 ·rw [tOf,hkW,hsplit,hww _ (fun x hx => hbnd x (List.mem_of_mem_take hx)),hm]
 ·have := hzero i x (by omega) hx
  have := h2 x (List.mem_of_getElem? hx)
  omega
 ·rw [hm,List.getD_eq_getElem?_getD,hz];exact hz0
end

section
open Go.RowKit
end

section
open Go.RowKit

def CalmV (Q : Exit → Act → World → Prop) : Exit → Act → World → Prop
 | .panic _,_,_ => False
 | e,a,w => Q e a w
theorem wp_calmV {P : Program} {c : Code} {Q : Exit → Act → World → Prop} {a : Act} {w : World} (h : Code.wp P c (CalmV Q) a w) : Code.wp P c Q a w :=
 wp_mono h fun e _ _ hq => by cases e <;> first | exact hq | exact hq.elim
theorem calmV_normal {Q : Exit → Act → World → Prop} {a : Act} {w : World} (h : Q .normal a w) : CalmV Q .normal a w := h

def encT (l : List Int) : List Int := if (codedE (wOf l)).length < (halvesL (wOf l)).length then codedE (wOf l) else halvesL (wOf l)

set_option maxHeartbeats 4000000 in
theorem encode_yes (v : Value) (l : List Int) (w : World) (hv : RdI .i64 w v l) (hn : l.length ≤ 1000000) (ht : treeL l = true) : Calls Tryz.prog 65 #[v] w (BtEnd w (encT l) 0) := by
 have hmf : ∀ (fn : Fn) (first cap : Array Value) (w : World),(Instr.makeFunc fn first cap).run Tryz.prog w = .ok (.func fn first cap) w := fun _ _ _ _ => rfl
 have hok := (back_of_tree ht).1
 obtain ⟨hl0,hl255⟩ := okW_len hok
 have HO := Lib.hid (fun w' (k : Keeps w w' []) => wof_yes v l w' (hv.keeps k) hn ht)
 have HFA := Lib.hid (fun u W (h : RdI .i64 W u (wOf l)) => halved_any u (wOf l) W h (by omega) (okW_bound hok))
 have HFB := Lib.hid (fun u W (h : RdI .i64 W u (wOf l)) => coded_any u (wOf l) W h (okW_bound hok) hl0 hl255)
 obtain ⟨A0,n,cp0,rfl,-,-⟩ := hv.form
 clear hv ht hok
 go_enter_defers Tryz.func65,Tryz.ntmps65
 go_wp2_with fail
 have k0 : Keeps w ((w.alloc (.cells #[.slice none 0 0] 22)).alloc (.cells #[.int .i64 0] 33)) [] := ((Keeps.refl w []).alloc _).alloc _
 have bo := (Blk.new w #[.slice none 0 0] 22).alloc (.cells #[.int .i64 0] 33)
 have be := Blk.new (w.alloc (.cells #[.slice none 0 0] 22)) #[.int .i64 0] 33
 simp only [World.size_alloc] at be
 refine (HO.out _ k0).mono ?_
 rintro e w1 ⟨v1,rfl,r1,-,k1⟩
 obtain ⟨a1,n1,c1,rfl,-,-⟩ := r1.form
 replace bo := bo.keeps k1 (by simp)
 replace be := be.keeps k1 (by simp)
 replace k0 := k0.then k1
 clear k1
 go_wp2_with (go_at_call 110;refine (ways_any _).mono ?_;rintro e w2 ⟨rfl,k2⟩)
 replace bo := (bo.keeps k2 (by simp)).alloc (.cells #[.func (.func 144) #[] #[],.func (.func 145) #[] #[]] 141)
 replace be := (be.keeps k2 (by simp)).alloc (.cells #[.func (.func 144) #[] #[],.func (.func 145) #[] #[]] 141)
 have k3 := (k0.then k2).alloc (.cells #[.func (.func 144) #[] #[],.func (.func 145) #[] #[]] 141)
 have r3 := (r1.keeps k2).keeps ((Keeps.refl w2 []).alloc (.cells #[.func (.func 144) #[] #[],.func (.func 145) #[] #[]] 141))
 have B5 := Lib.hid (Blk.new w2 #[.func (.func 144) #[] #[],.func (.func 145) #[] #[]] 141)
 clear r1 k0 k2
 obtain ⟨W3,hW3⟩ : ∃ W,W = w2.alloc (.cells #[.func (.func 144) #[] #[],.func (.func 145) #[] #[]] 141) := ⟨_,rfl⟩
 rw [← hW3] at bo be k3 r3 B5 ⊢
 have HA := Lib.hid (fun W (k : Keeps W3 W []) => HFA.out _ W (r3.keeps k))
 have HB := Lib.hid (fun W (k : Keeps W3 W []) => HFB.out _ W (r3.keeps k))
 have HS2 : Hid (w.heap.size + 2 ≤ W3.heap.size) := Lib.hid (by have := be.lt;omega)
 clear r3 hW3 HO HFA HFB
 refine wp_calmV ?_
 refine wp_region_held_drew (S := (fun w' => Keeps W3 w' [])) (by kernel_rfl) (Keeps.refl W3 []).drew (fun hHeld => ?_)
 refine takeM 0 rfl (by intro w9 hSw;clear hSw;go_simp;(try with_reducible rfl)) ?_
 try simp only [Act.put,stA,stZ,stS]
 refine takeM 1 rfl (by intro w9 hSw;have q := (B5.out.keeps hSw (by simp)).cell 0;simp at q;clear hSw;go_simp;(try with_reducible rfl)) ?_
 try simp only [Act.put,stA,stZ,stS]
 refine takeM 2 rfl (by intro w9 hSw;clear hSw;go_simp;(try with_reducible rfl)) ?_
 try simp only [Act.put,stA,stZ,stS]
 refine takeM 4 rfl (by intro w9 hSw;clear hSw;go_simp;(try with_reducible rfl)) ?_
 try simp only [Act.put,stA,stZ,stS]
 refine takeM 5 rfl (by intro w9 hSw;have q := (B5.out.keeps hSw (by simp)).cell 1;simp at q;clear hSw;go_simp;(try with_reducible rfl)) ?_
 try simp only [Act.put,stA,stZ,stS]
 refine takeM 6 rfl (by intro w9 hSw;clear hSw;go_simp;(try with_reducible rfl)) ?_
 try simp only [Act.put,stA,stZ,stS]
 refine callL (i := 3) rfl (by kernel_rfl) (fun Kont hK => ?_)
 go_simp
 refine (HA.out _ (Keeps.refl W3 []).drew).mono ?_
 rintro e w4 ⟨v4,rfl,own4,k4⟩
 obtain ⟨a4,c4,rfl⟩ := own_form own4
 have k4' := k3.drew.then k4
 have kk4 := (Keeps.refl W3 []).drew.then k4
 have s4 := own4.lt
 have OW4 := Lib.hid own4
 go_wp2_with fail
 refine hK.out _ _ ?_ (fun hHeld => ?_)
 ·exact kk4
 clear hK Kont k4 own4
 refine callL (i := 7) rfl (by kernel_rfl) (fun Kont hK => ?_)
 go_simp
 refine (HB.out _ kk4).mono ?_
 rintro e w5 ⟨v5,rfl,own5,k5⟩
 obtain ⟨a5,c5,rfl⟩ := own_form own5
 have k5' := k4'.then k5
 have kk5 := kk4.then k5
 have OA5 := Lib.hid (own_keeps OW4.out k5)
 have OB5 := Lib.hid own5
 go_wp2_with fail
 refine hK.out _ _ ?_ (fun hHeld => ?_)
 ·exact kk5
 clear hK Kont k5 own5
 refine takeM 8 rfl (by intro w9 hSw;clear hSw;go_simp;(try with_reducible rfl)) ?_
 try simp only [Act.put,stA,stZ,stS]
 refine takeM 9 rfl (by intro w9 hSw;clear hSw;go_simp;(try with_reducible rfl)) ?_
 try simp only [Act.put,stA,stZ,stS]
 refine wpAnyH_done (by kernel_rfl) ?_ _
 refine calmV_normal ?_
 by_cases hlt : (codedE (wOf l)).length < (halvesL (wOf l)).length
 ·have hET : Hid (encT l = codedE (wOf l)) := Lib.hid (if_pos hlt)
  have hltI : ((codedE (wOf l)).length : Int) < ((halvesL (wOf l)).length : Int) := by omega
  replace bo := bo.keeps kk5 (by simp)
  replace be := be.keeps kk5 (by simp)
  have k0 := k5'
  have hs2 := HS2.out
  have lbe := be.lt
  obtain ⟨e0,e1⟩ := be.one
  obtain ⟨o0,o1⟩ := bo.one
  have R1 := Lib.hid (own_reads OB5.out)
  have F1 := Lib.hid (own_freshB OB5.out)
  have HSA : Hid (w.heap.size + 2 ≤ W3.drew.heap.size) := Lib.hid (by have h : W3.drew.heap.size = W3.heap.size := rfl;omega)
  have HSB : Hid (w.heap.size + 2 ≤ w4.heap.size) := Lib.hid (by have := kk4.size;omega)
  clear OA5 OB5 OW4 hHeld kk4 k4' kk5
  generalize (codedE (wOf l)).length = NB at *
  generalize (halvesL (wOf l)).length = NA at *
  go_wp2_with fail
  refine leaves_cons (f := 107) (args := #[.pointer (some ⟨w.heap.size + 1,0,none⟩),.func (.func 108) #[] #[.pointer (some ⟨w.heap.size,0,none⟩)]]) (by simp) (by simp [go_sem]) ?_
  refine (wcaught_idle _ _ _).mono ?_
  rintro e u' w'' ⟨rfl,rfl,rfl⟩
  refine ⟨.tuple #[.slice a5 NB c5,.int .i64 0],by simp only [results,Tryz.results65];go_simp,?_⟩
  refine ⟨_,rfl,hET.out ▸ R1.out.keepsS (S := [w.heap.size,w.heap.size + 1]) (by repeat (first | exact Keeps.refl _ _ | refine Keeps.setCell' (.inr (by simp)) ?_)) (fun ad m c he _ hm => ?_),F1.out.mono (Nat.le_trans (by omega) HSB.out),by repeat (first | exact k0 | refine Keeps.setCell' (.inl (by dsimp only;omega)) ?_)⟩
  have := F1.out ad m c he
  have := HSB.out
  simp at hm
  omega
 ·have hET : Hid (encT l = halvesL (wOf l)) := Lib.hid (if_neg hlt)
  have hltI : decide (((codedE (wOf l)).length : Int) < ((halvesL (wOf l)).length : Int)) = false := decide_eq_false (by omega)
  have hltN : decide ((codedE (wOf l)).length < (halvesL (wOf l)).length) = false := decide_eq_false hlt
  replace bo := bo.keeps kk5 (by simp)
  replace be := be.keeps kk5 (by simp)
  have k0 := k5'
  have hs2 := HS2.out
  have lbe := be.lt
  obtain ⟨e0,e1⟩ := be.one
  obtain ⟨o0,o1⟩ := bo.one
  have R1 := Lib.hid (own_reads OA5.out)
  have F1 := Lib.hid (own_freshB OA5.out)
  have HSA : Hid (w.heap.size + 2 ≤ W3.drew.heap.size) := Lib.hid (by have h : W3.drew.heap.size = W3.heap.size := rfl;omega)
  have HSB : Hid (w.heap.size + 2 ≤ w4.heap.size) := Lib.hid (by have := kk4.size;omega)
  clear OA5 OB5 OW4 hHeld kk4 k4' kk5
  generalize (codedE (wOf l)).length = NB at *
  generalize (halvesL (wOf l)).length = NA at *
  go_wp2_with fail
  refine leaves_cons (f := 107) (args := #[.pointer (some ⟨w.heap.size + 1,0,none⟩),.func (.func 108) #[] #[.pointer (some ⟨w.heap.size,0,none⟩)]]) (by simp) (by simp [go_sem]) ?_
  refine (wcaught_idle _ _ _).mono ?_
  rintro e u' w'' ⟨rfl,rfl,rfl⟩
  refine ⟨.tuple #[.slice a4 NA c4,.int .i64 0],by simp only [results,Tryz.results65];go_simp,?_⟩
  refine ⟨_,rfl,hET.out ▸ R1.out.keepsS (S := [w.heap.size,w.heap.size + 1]) (by repeat (first | exact Keeps.refl _ _ | refine Keeps.setCell' (.inr (by simp)) ?_)) (fun ad m c he _ hm => ?_),F1.out.mono (Nat.le_trans (by omega) HSA.out),by repeat (first | exact k0 | refine Keeps.setCell' (.inl (by dsimp only;omega)) ?_)⟩
  have := F1.out ad m c he
  have := HSA.out
  simp at hm
  omega
end

section
open Go.RowKit

theorem take_eq_next {a b : List Int} {k : Nat} {x y : Int} (hx : a[k]? = some x) (hy : b[k]? = some y) (h : a.take k = b.take k) (hxy : x = y) : a.take (k + 1) = b.take (k + 1) := by
 rw [take_next hx,take_next hy,h,hxy]
end

section
open Go.RowKit
end

section
open Go.RowKit

theorem dict_cell0 {w : World} {p : Nat} {v0 v1 v2 v3 v4 v5 v6 v7 v8 v9 va vb : Value} {T : TypeId} (h : Blk w p #[v0,v1,v2,v3,v4,v5,v6,v7,v8,v9,va,vb] T) : w.cell? ⟨p,0,none⟩ = some v0 := h.cell 0
theorem decide_and_seven (p q r s t u v : Prop) [Decidable p] [Decidable q] [Decidable r] [Decidable s] [Decidable t] [Decidable u] [Decidable v] : decide (p ∧ q ∧ r ∧ s ∧ t ∧ u ∧ v) = (decide p && (decide q && (decide r && (decide s && (decide t && (decide u && decide v)))))) := by
 simp only [Bool.decide_and]
end

section
open Go.RowKit

def tblB (g : Int) (l : List Int) (sy lg : Int) : Bool := decide (0 < g) && okN g l sy lg
def badR (n x : Int) : Bool := decide (x < 1) || decide (n < x)
def rawB (T L1 L2 L3 : List Int) (g1 g2 g3 a b c : Int) (X : List Int) : Bool := decide (T.length = 0) && (decide (g1 = 0 ∧ L1 = []) && (decide (g2 = 0 ∧ L2 = []) && (decide (g3 = 0 ∧ L3 = []) && (decide (a = 1 ∧ b = 4 ∧ c = 8) && !markB X))))
def fullB (T L1 L2 L3 : List Int) (g1 g2 g3 a b c : Int) (X : List Int) : Bool := treeL T && (!decide (T.getD (T.length - 1) 0 = 0) && (tblB g2 L2 28 8 && (tblB g3 L3 44 9 && (tblB g1 L1 44 9 && (decide (8 ≤ (X.length : Int)) && !([a,b,c].any (badR X.length)))))))
def validB (id : Int) (T L1 L2 L3 : List Int) (g1 g2 g3 a b c : Int) (X : List Int) : Bool := if id = 0 then rawB T L1 L2 L3 g1 g2 g3 a b c X else fullB T L1 L2 L3 g1 g2 g3 a b c X

section
variable {P : Program} {md : Region.Mode} {os : List Oper} {Q : Exit → Act → World → Prop} {S : World → Prop}
end

theorem len_nil (l : List Int) : decide (l.length = 0) = decide (l = []) := decide_eq_decide.2 List.length_eq_zero_iff

theorem none1_any (g : Int) (v : Value) (l : List Int) (w : World) (hv : RdI .i64 w v l) :
  Calls Tryz.prog 69 #[.agg #[.int .i64 g,v]] w fun e w' => e = .returned (.bool (decide (g = 0 ∧ l = []))) ∧ Keeps w w' [] := by
 obtain ⟨A0,n,c,rfl,hn,-⟩ := hv.form
 have e1 : decide (l = []) = ((n : Int) == 0) := by
  rw [← len_nil,← hn,Bool.eq_iff_iff];simp
 rw [Bool.decide_and,e1]
 clear hv hn e1
 obtain ⟨R0,f0⟩ : ∃ R,(g == 0) = R := ⟨_,rfl⟩
 obtain ⟨R1,f1⟩ : ∃ R,((n : Int) == 0) = R := ⟨_,rfl⟩
 have f0' : decide (g = 0) = R0 := f0
 rw [f0',f1]
 clear f0'
 go_enter Tryz.func69,Tryz.ntmps69
 go_wp2_with fail
 all_goals
  clear f0 f1
  go_ret
  refine ⟨?_,(Keeps.refl w []).alloc _⟩
  simp_all

set_option maxHeartbeats 2000000 in
theorem dtable_any (g sy lg : Int) (v : Value) (l : List Int) (w : World) (hv : RdI .i64 w v l) (hn : l.length ≤ 1000000) (hb : ∀ x ∈ l,-9223372036854775808 ≤ x ∧ x ≤ 9223372036854775807) (hg0 : 0 ≤ lg) (hg9 : lg ≤ 9) :
  Calls Tryz.prog 38 #[.agg #[.int .i64 g,v],.int .i64 sy,.int .i64 lg] w fun e w' => e = .returned (.bool (tblB g l sy lg)) ∧ Keeps w w' [] := by
 have HC := Lib.hid (ncheck_any g sy lg v l (w.alloc (.cells #[.int .i64 g,v] 27)) (hv.keeps ((Keeps.refl w []).alloc _)) hn hb hg0 hg9)
 obtain ⟨A0,n,c,rfl,hn,-⟩ := hv.form
 rw [tblB]
 clear hv hn hb
 generalize okN g l sy lg = R1 at *
 obtain ⟨R0,f0⟩ : ∃ R,decide (0 < g) = R := ⟨_,rfl⟩
 rw [f0]
 go_enter Tryz.func38,Tryz.ntmps38
 cases R1
 ·go_wp2_with (go_at_call 73;(refine HC.out.mono ?_;rintro e w1 ⟨rfl,k1⟩))
  all_goals
   clear f0
   go_ret
  all_goals first
   | exact ⟨by simp_all,((Keeps.refl w []).alloc _).then k1⟩
   | exact ⟨by simp_all,(Keeps.refl w []).alloc _⟩
 ·go_wp2_with (go_at_call 73;(refine HC.out.mono ?_;rintro e w1 ⟨rfl,k1⟩))
  all_goals
   clear f0
   go_ret
  all_goals first
   | exact ⟨by simp_all,((Keeps.refl w []).alloc _).then k1⟩
   | exact ⟨by simp_all,(Keeps.refl w []).alloc _⟩

theorem valid1_any (n x : Int) (N : Nat) (w : World) (hb : Blk w N #[.int .i64 n] 3) :
  Calls Tryz.prog 40 #[.int .i64 x,.pointer (some ⟨N,0,none⟩)] w fun e w' => e = .returned (.bool (badR n x)) ∧ w = w' := by
 obtain ⟨c1,-⟩ := hb.one
 rw [badR]
 obtain ⟨R0,f0⟩ : ∃ R,decide (x < 1) = R := ⟨_,rfl⟩
 obtain ⟨R1,f1⟩ : ∃ R,decide (n < x) = R := ⟨_,rfl⟩
 rw [f0,f1]
 go_enter Tryz.func40,Tryz.ntmps40
 go_wp2_with fail
 all_goals
  clear f0 f1
  go_ret
  refine ⟨?_,rfl⟩
  simp_all

set_option maxHeartbeats 2000000 in
theorem idxBad_any (nn : Int) (N : Nat) (v : Value) (l : List Int) (w : World) (hb : Blk w N #[.int .i64 nn] 3) (hv : RdI .i64 w v l) (hn : l.length ≤ 1000) :
  Calls Tryz.prog 74 #[v,.func (.func 40) #[] #[.pointer (some ⟨N,0,none⟩)]] w fun e w' => (∃ r : Int,e = .returned (.int .i64 r) ∧ decide (0 ≤ r) = l.any (badR nn)) ∧ w = w' := by
 obtain ⟨A0,n,cp0,rfl,hnl,-⟩ := hv.form
 have HV := Lib.hid hv
 have HN := Lib.hid hnl
 have HB := Lib.hid (fun (x : Int) => valid1_any nn x N w hb)
 have hn' : n ≤ 1000 := by omega
 obtain ⟨R,hR⟩ : ∃ R,R = l.any (badR nn) := ⟨_,rfl⟩
 have HR := Lib.hid hR
 rw [← hR]
 clear hv hnl hb hn hR
 go_enter Tryz.func74,Tryz.ntmps74
 go_wp2_with fail
 go_loop [8] (fun i => ∃ k : Nat,k ≤ n ∧ i = .int .i64 k ∧ Hid (∀ x ∈ l.take k,badR nn x = false)) (fun i => n - (intOf i).toNat)
 case atStart => exact ⟨0,Nat.zero_le _,rfl,by show ∀ x ∈ _,_;simp⟩
 case round =>
  obtain ⟨k,hk,rfl,hno⟩ := hrel
  by_cases hlt : k < n
  ·obtain ⟨x,hx⟩ : ∃ x,l[k]? = some x := ⟨_,List.getElem?_eq_getElem (by have := HN.out;omega)⟩
   obtain ⟨bb,o,rfl,hbb,hc⟩ := HV.out.at hx
   have hcap := HV.out.cap
   have hkn : (k : Int) < (n : Int) := by omega
   have hk0 : (0 : Int) ≤ (k : Int) := Int.natCast_nonneg _
   have HX := Lib.hid hx
   clear hx
   have HBx := HB.out x
   cases hbx : badR nn x
   ·rw [hbx] at HBx
    replace HBx := Lib.hid HBx
    have NX : Hid (∀ y ∈ l.take (k + 1),badR nn y = false) := by
     show ∀ y ∈ _,_
     rw [take_next HX.out]
     intro y hy
     rcases List.mem_append.1 hy with hy | hy
     ·exact hno.out y hy
     ·rw [List.mem_singleton.1 hy];exact hbx
    clear hbx
    go_wp2_with fail
    refine HBx.out.mono ?_
    rintro e w1 ⟨rfl,rfl⟩
    go_wp2_with fail
    go_round
    case rel => exact ⟨k + 1,by omega,by go_num,NX⟩
    case measure => simp [intOf];omega
   ·rw [hbx] at HBx
    replace HBx := Lib.hid HBx
    have FR : Hid (R = true) := by
     show _ = _
     rw [HR.out]
     exact List.any_eq_true.2 ⟨x,List.mem_of_getElem? HX.out,hbx⟩
    clear hbx
    go_wp2_with fail
    refine HBx.out.mono ?_
    rintro e w1 ⟨rfl,rfl⟩
    go_wp2_with fail
    go_ret
    exact ⟨⟨_,rfl,by rw [FR.out];simp⟩,rfl⟩
  ·have : k = n := by omega
   subst this
   have FR : Hid (R = false) := by
    show _ = _
    rw [HR.out]
    refine List.any_eq_false.2 (fun y hy => ?_)
    rw [hno.out y (by rw [List.take_of_length_le (by have := HN.out;omega)];exact hy)]
    simp
   go_wp2_with fail
   go_ret
   exact ⟨⟨_,rfl,by rw [FR.out];simp⟩,rfl⟩

theorem hasBad_any (nn : Int) (N : Nat) (v : Value) (l : List Int) (w : World) (hb : Blk w N #[.int .i64 nn] 3) (hv : RdI .i64 w v l) (hn : l.length ≤ 1000) :
  Calls Tryz.prog 39 #[v,.func (.func 40) #[] #[.pointer (some ⟨N,0,none⟩)]] w fun e w' => e = .returned (.bool (l.any (badR nn))) ∧ w = w' := by
 have HI := Lib.hid (idxBad_any nn N v l w hb hv hn)
 generalize l.any (badR nn) = R at *
 clear hb hv hn
 go_enter Tryz.func39,Tryz.ntmps39
 go_wp2_with fail
 refine HI.out.mono ?_
 rintro e w1 ⟨⟨r,rfl,hr⟩,rfl⟩
 go_wp2_with fail
 go_ret
 exact ⟨rfl,rfl⟩
end

section
open Go.RowKit

def wordB (n : Int) : List Int := [n % 256,n / 256 % 256,n / 65536 % 256,n / 16777216 % 256]
theorem wordL_wordB {n : Int} (h0 : 0 ≤ n) (h1 : n < 4294967296) : wordL (wordB n) = n := by
 simp [wordL,wordB,upto,wordP,backF,List.range_succ]
 omega
theorem wordB_byte {n : Int} : ∀ x ∈ wordB n,0 ≤ x ∧ x ≤ 255 := by
 intro x hx
 simp [wordB] at hx
 omega
def putF (D : DD) : List Int := [80,77,84,68] ++ (wordB D.id ++ (encT D.T ++ (descE D.g2.toNat D.L2 ++ (descE D.g3.toNat D.L3 ++ (descE D.g1.toNat D.L1 ++ (varI D.a.toNat ++ (varI D.b.toNat ++ (varI D.c.toNat ++ (varI D.X.length ++ D.X)))))))))
def putA (D : DD) : List Int := if D.id = 0 then D.X else putF D
def vD (D : DD) : Bool := validB D.id D.T D.L1 D.L2 D.L3 D.g1 D.g2 D.g3 D.a D.b D.c D.X

theorem packB_byte' (L : List Bool) : ∀ x ∈ packB L,0 ≤ x ∧ x ≤ 255 := by obtain ⟨k,-,-,-,h⟩ := packB_bits L;exact h
theorem codedE_byte' (l : List Int) : ∀ x ∈ codedE l,0 ≤ x ∧ x ≤ 255 := by
 intro x hx
 simp only [codedE,List.mem_append,List.mem_singleton] at hx
 rcases hx with (((hx | hx) | hx) | hx) | hx
 ·exact varI_byte hx
 ·omega
 ·exact packB_byte' _ x hx
 ·exact varI_byte hx
 ·exact packB_byte' _ x hx
theorem encT_byte {T : List Int} (h : treeL T = true) : ∀ x ∈ encT T,0 ≤ x ∧ x ≤ 255 := by
 intro x hx
 unfold encT at hx
 split at hx
 ·exact codedE_byte' _ x hx
 ·exact halves_byte (fun y hy => by have := okW_bound (back_of_tree h).1 y hy;omega) x hx
theorem encT_len {T : List Int} (h : treeL T = true) : (encT T).length ≤ 200 := by
 have h1 := (okW_len (back_of_tree h).1).2
 have h2 : (halvesL (wOf T)).length ≤ 200 := by
  have h3 := varI_len 9 (wOf T).length (by omega)
  have h4 := nib_len (wOf T)
  simp only [halvesL,List.length_append,List.length_singleton]
  omega
 unfold encT
 split <;> omega
theorem encT_read {B T Z : List Int} {k : Nat} (ht : treeL T = true) (hlast : T.getD (T.length - 1) 0 ≠ 0) (h : B.drop k = encT T ++ Z) : getW B k = .ok (T,k + (encT T).length) := by
 obtain ⟨h1,h2,h3,h4,-⟩ := back_of_tree ht
 have h5 : tOf (wOf T) = T := by
  rw [h2,List.take_of_length_le]
  rcases Nat.lt_or_ge (lastU T) (T.length - 1) with hlt | hge
  ·exfalso
   have hi : T.length - 1 < T.length := by omega
   refine hlast ?_
   rw [List.getD_eq_getElem?_getD,List.getElem?_eq_getElem hi]
   exact h4 (T.length - 1) _ hlt (List.getElem?_eq_getElem hi)
  ·omega
 unfold encT at h ⊢
 split at h
 ·rename_i hc
  rw [if_pos hc]
  have := getW_coded h1 h
  rwa [h5] at this
 ·rename_i hc
  rw [if_neg hc]
  have := getW_halves h1 h
  rwa [h5] at this

theorem descE_lenD {g : Nat} {norm : List Int} (hg : g ≤ 9) (hn : norm.length ≤ 44) : (descE g norm).length ≤ 700 := by
 have h1 := packB_len (descL g norm)
 have h9 : 2 ^ g ≤ 2 ^ 9 := Nat.pow_le_pow_right (by decide) hg
 rw [show (2 : Nat) ^ 9 = 512 by decide] at h9
 have h2 := normsE_len (f := norm.length) (l := norm) h9
 unfold descE descL at *
 rw [List.length_append,bitsN_len] at h1
 omega
theorem tblB_iff {g : Int} {L : List Int} {sy lg : Int} : tblB g L sy lg = true ↔ 0 < g ∧ g ≤ lg ∧ 0 < L.length ∧ (L.length : Int) ≤ sy ∧ L.getD (L.length - 1) 0 ≠ 0 ∧ (∀ n ∈ L,-1 ≤ n) ∧ sumN L = 2 ^ g.toNat := by
 unfold tblB okN
 rw [Bool.and_eq_true,decide_eq_true_eq,decide_eq_true_eq]
 constructor
 ·rintro ⟨h1,-,h2⟩;exact ⟨h1,h2⟩
 ·rintro ⟨h1,h2⟩;exact ⟨h1,by omega,h2⟩
theorem desc_read {B L Z : List Int} {k sy lg : Nat} {g : Int} (hs : sy ≤ 256) (hl9 : lg ≤ 9) (ht : tblB g L (sy : Int) (lg : Int) = true) (h : B.drop k = descE g.toNat L ++ Z) :
  descP ((B.drop k).take 1024) sy (lg : Int) = .ok (g.toNat,L,(descE g.toNat L).length) := by
 obtain ⟨h1,h2,h3,h4,h5,h6,h7⟩ := tblB_iff.1 ht
 rw [descP_cut _ _ _ hs,h]
 exact descP_descE (by omega) (by omega) (by omega) (by omega) h6 (by rw [h7];simp) (last_of h3 h5)
theorem rep_read {B Z : List Int} {k n : Nat} (h1 : 1 ≤ n) (h2 : n ≤ 134217728) (h : B.drop k = varI n ++ Z) : repR B k = .ok (n,k + (varI n).length) := by
 obtain ⟨e1,e2,e3⟩ := var_read (by omega) h
 unfold repR
 rw [e2,if_neg (by simp),e1,if_neg (by omega),e3]

theorem putF_byte {D : DD} (hv : treeL D.T = true) (hX : ∀ x ∈ D.X,0 ≤ x ∧ x ≤ 255) : ∀ x ∈ putF D,0 ≤ x ∧ x ≤ 255 := by
 intro x hx
 simp only [putF,List.mem_append] at hx
 rcases hx with hx | hx | hx | hx | hx | hx | hx | hx | hx | hx | hx
 ·simp at hx;omega
 ·exact wordB_byte x hx
 ·exact encT_byte hv x hx
 ·exact packB_byte' _ x hx
 ·exact packB_byte' _ x hx
 ·exact packB_byte' _ x hx
 ·exact varI_byte hx
 ·exact varI_byte hx
 ·exact varI_byte hx
 ·exact varI_byte hx
 ·exact hX x hx

theorem vD_full {D : DD} (hid : D.id ≠ 0) : vD D = true ↔ treeL D.T = true ∧ D.T.getD (D.T.length - 1) 0 ≠ 0 ∧ tblB D.g2 D.L2 28 8 = true ∧ tblB D.g3 D.L3 44 9 = true ∧ tblB D.g1 D.L1 44 9 = true ∧ 8 ≤ D.X.length ∧ (1 ≤ D.a ∧ D.a ≤ D.X.length) ∧ (1 ≤ D.b ∧ D.b ≤ D.X.length) ∧ (1 ≤ D.c ∧ D.c ≤ D.X.length) := by
 have e : ∀ y : Int,badR D.X.length y = false ↔ 1 ≤ y ∧ y ≤ D.X.length := fun y => by
  unfold badR
  rw [Bool.or_eq_false_iff,decide_eq_false_iff_not,decide_eq_false_iff_not]
  omega
 unfold vD validB fullB
 rw [if_neg hid]
 simp only [Bool.and_eq_true,Bool.not_eq_true',decide_eq_true_eq,decide_eq_false_iff_not,List.any_cons,List.any_nil,Bool.or_false,Bool.or_eq_false_iff,e]
 constructor
 ·rintro ⟨h1,h2,h3,h4,h5,h6,h7⟩
  exact ⟨h1,h2,h3,h4,h5,by omega,h7⟩
 ·rintro ⟨h1,h2,h3,h4,h5,h6,h7⟩
  exact ⟨h1,h2,h3,h4,h5,by omega,h7⟩
theorem vD_raw {D : DD} (hid : D.id = 0) : vD D = true ↔ D.T = [] ∧ (D.g1 = 0 ∧ D.L1 = []) ∧ (D.g2 = 0 ∧ D.L2 = []) ∧ (D.g3 = 0 ∧ D.L3 = []) ∧ (D.a = 1 ∧ D.b = 4 ∧ D.c = 8) ∧ markB D.X = false := by
 unfold vD validB rawB
 rw [if_pos hid]
 simp only [Bool.and_eq_true,Bool.not_eq_true',decide_eq_true_eq,List.length_eq_zero_iff]

theorem putF_len {D : DD} (hid : D.id ≠ 0) (hv : vD D = true) (hX : D.X.length ≤ 134217728) : (putF D).length ≤ D.X.length + 2700 ∧ 4 < (putF D).length := by
 obtain ⟨h1,-,h2,h3,h4,h5,h6,h7,h8⟩ := (vD_full hid).1 hv
 have l1 := encT_len h1
 obtain ⟨a1,a2,a3,a4,-⟩ := tblB_iff.1 h2
 obtain ⟨b1,b2,b3,b4,-⟩ := tblB_iff.1 h3
 obtain ⟨c1,c2,c3,c4,-⟩ := tblB_iff.1 h4
 have d1 := descE_lenD (g := D.g2.toNat) (norm := D.L2) (by omega) (by omega)
 have d2 := descE_lenD (g := D.g3.toNat) (norm := D.L3) (by omega) (by omega)
 have d3 := descE_lenD (g := D.g1.toNat) (norm := D.L1) (by omega) (by omega)
 have v1 := varI_len 9 D.a.toNat (by omega)
 have v2 := varI_len 9 D.b.toNat (by omega)
 have v3 := varI_len 9 D.c.toNat (by omega)
 have v4 := varI_len 9 D.X.length (by omega)
 simp only [putF,wordB,List.length_append,List.length_cons,List.length_nil]
 omega

theorem getD_putF {D : DD} (hid : D.id ≠ 0) (hr : 0 ≤ D.id ∧ D.id < 4294967296) (hv : vD D = true) (hX : D.X.length ≤ 134217728) : getD (putF D) 4 = .ok D := by
 obtain ⟨ht,hlast,h2,h3,h1,h8,ha,hb,hc⟩ := (vD_full hid).1 hv
 have h4 : (putF D).drop 4 = wordB D.id ++ (encT D.T ++ (descE D.g2.toNat D.L2 ++ (descE D.g3.toNat D.L3 ++ (descE D.g1.toNat D.L1 ++ (varI D.a.toNat ++ (varI D.b.toNat ++ (varI D.c.toNat ++ (varI D.X.length ++ (D.X ++ []))))))))) := by simp [putF]
 obtain ⟨B,hB⟩ : ∃ B,putF D = B := ⟨_,rfl⟩
 rw [hB] at h4 ⊢
 obtain ⟨w1,w2,w3⟩ := bytes_read h4 (by simp [wordB])
 have e4 : ((wordB D.id).length : Int) = 4 := rfl
 have e4n : (wordB D.id).length = 4 := rfl
 rw [e4] at w1 w2 w3
 have p1 := drop_app h4
 have q1 := encT_read ht hlast p1
 have p2 := drop_app p1
 have q2 := desc_read (sy := 28) (lg := 8) (by decide) (by decide) h2 p2
 have p3 := drop_app p2
 have q3 := desc_read (sy := 44) (lg := 9) (by decide) (by decide) h3 p3
 have p4 := drop_app p3
 have q4 := desc_read (sy := 44) (lg := 9) (by decide) (by decide) h1 p4
 have p5 := drop_app p4
 have q5 := rep_read (by omega) (by omega) p5
 have p6 := drop_app p5
 have q6 := rep_read (by omega) (by omega) p6
 have p7 := drop_app p6
 have q7 := rep_read (by omega) (by omega) p7
 have p8 := drop_app p7
 obtain ⟨n1,n2,n3⟩ := num_read (M := 134217728) (by omega) hX p8
 have p9 := drop_app p8
 obtain ⟨b1,b2,b3⟩ := bytes_read p9 (by omega)
 have p10 := drop_app p9
 have hend : 4 + (wordB D.id).length + (encT D.T).length + (descE D.g2.toNat D.L2).length + (descE D.g3.toNat D.L3).length + (descE D.g1.toNat D.L1).length + (varI D.a.toNat).length + (varI D.b.toNat).length + (varI D.c.toNat).length + (varI D.X.length).length + D.X.length = B.length := by
  rw [← hB]
  simp only [putF,List.length_append,List.length_cons,List.length_nil]
  omega
 have ea : ((D.a.toNat : Nat) : Int) = D.a := by omega
 have eb : ((D.b.toNat : Nat) : Int) = D.b := by omega
 have ec : ((D.c.toNat : Nat) : Int) = D.c := by omega
 unfold getD
 rw [w1,if_neg (by simp),w2,wordL_wordB hr.1 hr.2,if_neg hid,w3,q1]
 simp only
 unfold getD2
 rw [show ((8 : Nat) : Int) = 8 from rfl] at q2
 rw [show ((9 : Nat) : Int) = 9 from rfl] at q3 q4
 rw [q2]
 simp only
 rw [q3]
 simp only
 rw [q4]
 simp only
 unfold getD3
 rw [contR_ok q5,contR_ok q6,contR_ok q7]
 unfold contR
 simp only [List.nil_append,List.cons_append,List.map_cons,List.map_nil,List.getD_cons_zero,List.getD_cons_succ,ea,eb,ec]
 unfold conR
 rw [n2,if_neg (by simp),n1,if_neg (fun h => by
  rcases h with h | h
  ·omega
  ·exact mx3_le (by omega) ha.2 hb.2 hc.2 h),n3,b1,if_neg (by simp),b2,b3]
 simp only
 rw [if_pos hend]
 have c1 : 0 < D.g1 := (tblB_iff.1 h1).1
 have c2 : 0 < D.g2 := (tblB_iff.1 h2).1
 have c3 : 0 < D.g3 := (tblB_iff.1 h3).1
 rw [show ((D.g1.toNat : Nat) : Int) = D.g1 by omega,show ((D.g2.toNat : Nat) : Int) = D.g2 by omega,show ((D.g3.toNat : Nat) : Int) = D.g3 by omega]
theorem markB_putF (D : DD) : markB (putF D) = true := by simp [markB,putF]
theorem getA_putA {D : DD} (hr : 0 ≤ D.id ∧ D.id < 4294967296) (hv : vD D = true) (hX : D.X.length ≤ 134217728) : getA (putA D) = .ok D := by
 by_cases hid : D.id = 0
 ·obtain ⟨h1,h2,h3,h4,h5,h6⟩ := (vD_raw hid).1 hv
  unfold putA getA
  rw [if_pos hid,if_neg (by rw [h6];simp)]
  obtain ⟨id,T,g1,L1,g2,L2,g3,L3,a,b,c,X⟩ := D
  simp only at *
  obtain ⟨rfl,rfl⟩ := h2
  obtain ⟨rfl,rfl⟩ := h3
  obtain ⟨rfl,rfl⟩ := h4
  obtain ⟨rfl,rfl,rfl⟩ := h5
  subst hid h1
  rfl
 ·unfold putA getA
  rw [if_neg hid,if_pos (markB_putF D)]
  exact getD_putF hid hr hv hX

/-! What is read is valid. -/
theorem zerosP_zeros {symbols : Nat} : ∀ {f : Nat} {L R : List Bool} {out o : List Int},zerosP symbols f L out = .ok (o,R) → ∃ j,o = out ++ List.replicate j 0 := by
 intro f
 induction f with
 | zero => intro L R out o h;cases h
 | succ f ih =>
  intro L R out o h
  unfold zerosP at h
  split at h
  ·cases h
  cases hk : tk L 2 with
  | error e => rw [hk] at h;cases h
  | ok x =>
   obtain ⟨k,L1⟩ := x
   rw [hk] at h
   simp only at h
   split at h
   ·obtain ⟨j,hj⟩ := ih h
    exact ⟨k + j,by rw [hj,List.append_assoc,List.replicate_append_replicate]⟩
   ·cases h;exact ⟨k,rfl⟩
theorem sumN_zeros : ∀ j : Nat,sumN (List.replicate j 0) = 0
 | 0 => rfl
 | j + 1 => by rw [List.replicate_succ,sumN,sumN_zeros j];rfl
theorem normsP_valid {symbols : Nat} {S : Int} : ∀ {f : Nat} {L R : List Bool} {left : Nat} {out o : List Int} {ran : Bool},normsP symbols f L left out ran = .ok (o,R) → (∀ n ∈ out,-1 ≤ n) → (left : Int) + sumN out = S → (left = 0 → 0 < out.length ∧ out.length ≤ symbols ∧ out.getD (out.length - 1) 0 ≠ 0) →
  0 < o.length ∧ o.length ≤ symbols ∧ o.getD (o.length - 1) 0 ≠ 0 ∧ (∀ n ∈ o,-1 ≤ n) ∧ sumN o = S := by
 intro f
 induction f with
 | zero => intro L R left out o ran h;cases h
 | succ f ih =>
  intro L R left out o ran h hlow hs h0
  unfold normsP at h
  split at h
  ·rename_i hl
   cases h
   obtain ⟨a1,a2,a3⟩ := h0 hl
   exact ⟨a1,a2,a3,hlow,by omega⟩
  rename_i hl
  split at h
  ·cases h
  rename_i hsy
  cases hk : numP L (left + 2) with
  | error e => rw [hk] at h;cases h
  | ok x =>
   obtain ⟨v,L1⟩ := x
   have hv := (numP_lt (by omega) hk).1
   rw [hk] at h
   simp only at h
   split at h
   ·cases h
   split at h
   ·rename_i hv1
    subst hv1
    cases hz : zerosP symbols (symbols + 1) L1 (out ++ [((1 : Nat) : Int) - 1]) with
    | error e => rw [hz] at h;cases h
    | ok y =>
     obtain ⟨o2,L2⟩ := y
     rw [hz] at h
     obtain ⟨j,hj⟩ := zerosP_zeros hz
     refine ih h ?_ ?_ (fun h9 => absurd h9 hl)
     ·intro n hn
      rw [hj] at hn
      simp only [List.mem_append,List.mem_singleton] at hn
      rcases hn with (hn | hn) | hn
      ·exact hlow n hn
      ·omega
      ·have := List.eq_of_mem_replicate hn;omega
     ·rw [hj,sumN_append,sumN_append,sumN_zeros]
      simp only [sumN,stN]
      omega
   ·rename_i hv1
    have hst : stN ((v : Int) - 1) = ((if v = 0 then 1 else v - 1 : Nat) : Int) := by
     unfold stN
     by_cases h9 : v = 0
     ·subst h9;simp
     ·rw [if_neg (by omega),if_neg h9];omega
    refine ih h ?_ ?_ ?_
    ·intro n hn
     simp only [List.mem_append,List.mem_singleton] at hn
     rcases hn with hn | hn
     ·exact hlow n hn
     ·omega
    ·rw [sumN_append]
     simp only [sumN]
     rw [hst]
     split <;> omega
    ·intro h9
     simp only [List.length_append,List.length_singleton]
     refine ⟨by omega,by omega,?_⟩
     rw [Nat.add_sub_cancel,List.getD_eq_getElem?_getD,List.getElem?_append_right (Nat.le_refl _),Nat.sub_self]
     simp
     omega
theorem descP_valid {D : List Int} {sy g nb : Nat} {lg : Int} {L : List Int} (h : descP D sy lg = .ok (g,L,nb)) : tblB (g : Int) L (sy : Int) lg = true := by
 unfold descP tabP at h
 cases ht : tk (rowBits D) 4 with
 | error e => rw [ht] at h;cases h
 | ok x =>
  obtain ⟨n,L1⟩ := x
  rw [ht] at h
  simp only at h
  by_cases hb : lg < (n : Int) + 1 ∨ 8 < n
  ·rw [if_pos hb] at h;cases h
  ·rw [if_neg hb] at h
   cases hn : normsP sy (sy + 1) L1 (2 ^ (n + 1)) [] false with
   | error e => rw [hn] at h;cases h
   | ok y =>
    obtain ⟨l,L2⟩ := y
    have hp : 0 < 2 ^ (n + 1) := Nat.pow_pos (by decide)
    obtain ⟨v1,v2,v3,v4,v5⟩ := normsP_valid (S := ((2 ^ (n + 1) : Nat) : Int)) hn (by simp) (by simp [sumN]) (fun h9 => by omega)
    rw [hn] at h
    simp only [tabOf] at h
    split at h
    ·cases h
     rw [tblB_iff]
     refine ⟨by omega,by omega,v1,by omega,v3,v4,?_⟩
     rw [v5]
     simp
    ·cases h
theorem tOf_last {l : List Int} (h : okW l = true) : (tOf l).getD ((tOf l).length - 1) 0 ≠ 0 := by
 simp only [okW,Bool.and_eq_true,decide_eq_true_eq] at h
 obtain ⟨⟨⟨h1,h2⟩,h3,h4,h5⟩,-⟩ := h
 obtain ⟨s1,s2,s3,s4,s5,s6,s7,s8,s9⟩ := sums h1 h2
 have hv : vW l ≤ kW l := by
  have h7 : 2 ^ (vW l - 1) < 2 ^ kW l := by omega
  have := (Nat.pow_lt_pow_iff_right (by decide : 1 < 2)).1 h7
  omega
 have e : tOf l = trL (kW l) l ++ [wgt (kW l) (vW l)] := by simp [tOf,trL]
 rw [e,List.length_append,List.length_singleton,Nat.add_sub_cancel,List.getD_eq_getElem?_getD,List.getElem?_append_right (Nat.le_refl _),Nat.sub_self]
 simp only [List.getElem?_cons_zero,Option.getD_some]
 unfold wgt
 rw [if_pos (by omega)]
 omega
theorem getW_valid {B T : List Int} {k K : Nat} (h : getW B k = .ok (T,K)) : treeL T = true ∧ T.getD (T.length - 1) 0 ≠ 0 := by
 have fin : ∀ {L : List Int} {K' : Nat},finW L K' = .ok (T,K) → treeL T = true ∧ T.getD (T.length - 1) 0 ≠ 0 := fun {L K'} hf => by
  unfold finW at hf
  split at hf
  ·rename_i ho
   cases hf
   exact ⟨tree_of_ok ho,tOf_last ho⟩
  ·cases hf
 unfold getW at h
 split at h
 ·cases h
 split at h
 ·cases h
 split at h
 ·cases h
 split at h
 ·split at h
  ·cases h
  ·exact fin h
 split at h
 ·split at h
  ·cases h
  ·exact fin h
 ·cases h
theorem repR_valid {B : List Int} {k x k' : Nat} (h : repR B k = .ok (x,k')) : 1 ≤ x ∧ x ≤ 134217728 := by
 unfold repR at h
 split at h
 ·cases h
 split at h
 ·cases h
 ·cases h;omega
theorem contR_valid {B : List Int} {k k' : Nat} {l : List Nat} (h : contR B 3 k [] = .ok (l,k')) : ∃ x y z : Nat,l = [x,y,z] ∧ 1 ≤ x ∧ 1 ≤ y ∧ 1 ≤ z := by
 unfold contR at h
 rcases h1 : repR B k with n | ⟨x,k1⟩
 ·rw [h1] at h;cases h
 rw [h1] at h
 simp only at h
 unfold contR at h
 rcases h2 : repR B k1 with n | ⟨y,k2⟩
 ·rw [h2] at h;cases h
 rw [h2] at h
 simp only at h
 unfold contR at h
 rcases h3 : repR B k2 with n | ⟨z,k3⟩
 ·rw [h3] at h;cases h
 rw [h3] at h
 simp only at h
 unfold contR at h
 cases h
 exact ⟨x,y,z,rfl,(repR_valid h1).1,(repR_valid h2).1,(repR_valid h3).1⟩
theorem conR_valid {B X : List Int} {k K : Nat} {a b c : Int} (h : conR B k a b c = .ok (X,K)) : 8 ≤ X.length ∧ a ≤ X.length ∧ b ≤ X.length ∧ c ≤ X.length ∧ ∀ x ∈ X,x ∈ B := by
 unfold conR at h
 split at h
 ·cases h
 split at h
 ·cases h
 rename_i h2
 split at h
 ·cases h
 rename_i h3
 have h3' : bytesE B (numK B k 134217728) (numX B k 134217728 : Nat) = 0 := by simpa using h3
 cases h
 have hl : (bytesX B (numK B k 134217728) (numX B k 134217728 : Nat)).length = numX B k 134217728 ∧ ∀ x ∈ bytesX B (numK B k 134217728) (numX B k 134217728 : Nat),x ∈ B := by
  obtain ⟨N,hN⟩ : ∃ N,numX B k 134217728 = N := ⟨_,rfl⟩
  rw [hN] at h3' ⊢
  unfold bytesX
  rw [if_pos h3']
  refine ⟨?_,fun x hx => List.mem_of_mem_drop (List.mem_of_mem_take hx)⟩
  unfold bytesE at h3'
  split at h3'
  ·cases h3'
  split at h3'
  ·cases h3'
  simp
  omega
 rw [hl.1]
 have ha := mxL_ge (l := [a,b,c]) (x := a) (by simp)
 have hb := mxL_ge (l := [a,b,c]) (x := b) (by simp)
 have hc := mxL_ge (l := [a,b,c]) (x := c) (by simp)
 exact ⟨by omega,by omega,by omega,by omega,hl.2⟩
theorem pow256 {m : Nat} (h : m ≤ 4) : (256 : Int) ^ m ≤ 4294967296 := by
 have hc : m = 0 ∨ m = 1 ∨ m = 2 ∨ m = 3 ∨ m = 4 := by omega
 rcases hc with rfl | rfl | rfl | rfl | rfl <;> decide
structure GotOk (B : List Int) (D : DD) : Prop where
 valid : vD D = true
 id0 : 0 ≤ D.id
 id1 : D.id < 4294967296
 len : D.X.length ≤ B.length
 mem : ∀ x ∈ D.X,x ∈ B
theorem getD_valid {B : List Int} {D : DD} {k : Nat} (hb : ∀ x ∈ B,0 ≤ x ∧ x ≤ 255) (h : getD B k = .ok D) : GotOk B D ∧ D.id ≠ 0 := by
 unfold getD at h
 split at h
 ·cases h
 rename_i h1
 split at h
 ·cases h
 rename_i hid
 have hw : 0 ≤ wordL (bytesX B k 4) ∧ wordL (bytesX B k 4) < 4294967296 := by
  have hx : ∀ x ∈ bytesX B k 4,0 ≤ x ∧ x ≤ 255 := fun x hx => by
   unfold bytesX at hx
   split at hx
   ·exact hb x (List.mem_of_mem_drop (List.mem_of_mem_take hx))
   ·cases hx
  have hl : (bytesX B k 4).length ≤ 4 := by
   unfold bytesX
   split
   ·simp;omega
   ·simp
  have h2 := wordP_bound hx (bytesX B k 4).length
  have h3 := pow256 hl
  unfold wordL
  omega
 rcases h2 : getW B (bytesK B k 4) with n | ⟨T,k1⟩
 ·rw [h2] at h;cases h
 rw [h2] at h
 simp only at h
 obtain ⟨t1,t2⟩ := getW_valid h2
 unfold getD2 at h
 rcases h3 : descP ((B.drop k1).take 1024) 28 8 with n | ⟨g2,L2,m2⟩
 ·rw [h3] at h;cases h
 rw [h3] at h
 simp only at h
 rcases h4 : descP ((B.drop (k1 + m2)).take 1024) 44 9 with n | ⟨g3,L3,m3⟩
 ·rw [h4] at h;cases h
 rw [h4] at h
 simp only at h
 rcases h5 : descP ((B.drop (k1 + m2 + m3)).take 1024) 44 9 with n | ⟨g1,L1,m1⟩
 ·rw [h5] at h;cases h
 rw [h5] at h
 simp only at h
 unfold getD3 at h
 rcases h6 : contR B 3 (k1 + m2 + m3 + m1) [] with n | ⟨acc,k6⟩
 ·rw [h6] at h;cases h
 obtain ⟨x,y,z,rfl,hx,hy,hz⟩ := contR_valid h6
 rw [h6] at h
 simp only [List.map_cons,List.map_nil,List.getD_cons_zero,List.getD_cons_succ] at h
 rcases h7 : conR B k6 (x : Int) (y : Int) (z : Int) with n | ⟨X,k7⟩
 ·rw [h7] at h;cases h
 obtain ⟨c1,c2,c3,c4,c5⟩ := conR_valid h7
 rw [h7] at h
 simp only at h
 split at h
 ·rename_i h8
  cases h
  refine ⟨⟨(vD_full hid).2 ⟨t1,t2,descP_valid h3,descP_valid h4,descP_valid h5,c1,⟨by show (1 : Int) ≤ (x : Int);omega,c2⟩,⟨by show (1 : Int) ≤ (y : Int);omega,c3⟩,⟨by show (1 : Int) ≤ (z : Int);omega,c4⟩⟩,hw.1,hw.2,?_,c5⟩,hid⟩
  unfold conR at h7
  split at h7
  ·cases h7
  split at h7
  ·cases h7
  split at h7
  ·cases h7
  cases h7
  exact bytesX_le
 ·cases h
theorem getA_valid {B : List Int} {D : DD} (hb : ∀ x ∈ B,0 ≤ x ∧ x ≤ 255) (h : getA B = .ok D) : GotOk B D := by
 unfold getA at h
 split at h
 ·exact (getD_valid hb h).1
 ·rename_i hm
  cases h
  exact ⟨(vD_raw rfl).2 ⟨rfl,⟨rfl,rfl⟩,⟨rfl,rfl⟩,⟨rfl,rfl⟩,⟨rfl,rfl,rfl⟩,by simpa using hm⟩,(show (0 : Int) ≤ 0 by decide),(show (0 : Int) < 4294967296 by decide),Nat.le_refl _,fun x hx => hx⟩
end

section
open Go.RowKit

def wordN (n : Int) (j : Nat) : Int := match j with
 | 0 => n
 | 1 => n / 256
 | 2 => n / 65536
 | _ => n / 16777216
set_option maxHeartbeats 4000000 in
theorem putWord_any (v : Value) (l : List Int) (id : Int) (w : World) (hv : RdI .u8 w v l) (hl : l.length ≤ 500000) (h0 : 0 ≤ id) (h1 : id < 4294967296) :
  Calls Tryz.prog 63 #[v,.int .u32 id] w fun e w' => ∃ v',e = .returned v' ∧ OwnB w' w.heap.size v' (l ++ wordB id) ∧ Keeps w w' [] := by
 obtain ⟨i0,hi,hz0,hz1,hz2⟩ := info_parts Tryz.infoByte
 have HC := Lib.hid (cloneb_any v l w hv (by omega))
 obtain ⟨A0,n,cp,rfl,-,-⟩ := hv.form
 have HB := Lib.hid (And.intro h0 h1)
 have HL := Lib.hid hl
 clear hv hl h0 h1
 go_enter Tryz.func63,Tryz.ntmps63
 go_wp2_with (go_at_call 33;(refine HC.out.mono ?_;rintro e w1 ⟨v1,rfl,own1,k1⟩;have OW1 := Lib.hid own1;have K1 := Lib.hid k1;clear own1 k1))
 go_loopw [1,5,8] (fun s1 s5 s8 wr => ∃ (j : Nat) (N : Int) (v : Value),j ≤ 4 ∧ s1 = .int .u32 N ∧ s5 = v ∧ s8 = .int .i64 (j : Int) ∧ Hid (j < 4 → N = wordN id j) ∧ Hid (OwnB wr w.heap.size v (l ++ (wordB id).take j)) ∧ Hid (Keeps w wr [])) (fun _ _ s8 _ => 4 - (intOf s8).toNat)
 case atStart => exact ⟨0,id,v1,by omega,rfl,rfl,rfl,Lib.hid (fun _ => rfl),Lib.hid (by simpa using OW1.out),K1⟩
 case round =>
  obtain ⟨j,N,v2,hj,rfl,rfl,rfl,hN,hO,hK⟩ := hrel
  clear OW1 K1
  by_cases hlt : j < 4
  ·obtain ⟨Y,hY⟩ : ∃ Y,N % 256 = Y := ⟨_,rfl⟩
   have hYw : IntKind.u8.wrap N = Y := by simp [IntKind.wrap,IntKind.signed,IntKind.bits];exact hY
   have hjI : (j : Int) < 4 := by omega
   obtain ⟨NM,hNM⟩ : ∃ NM,N / 256 = NM := ⟨_,rfl⟩
   have hwd : l ++ (wordB id).take (j + 1) = l ++ (wordB id).take j ++ [Y] := by
    have h9 := hN.out hlt
    have hc : j = 0 ∨ j = 1 ∨ j = 2 ∨ j = 3 := by omega
    rcases hc with rfl | rfl | rfl | rfl <;> simp [wordN,wordB] at h9 ⊢ <;> omega
   have hnx : Hid (j + 1 < 4 → NM = wordN id (j + 1)) := Lib.hid (fun hl => by
    have h9 := hN.out hlt
    have := HB.out
    have hc : j = 0 ∨ j = 1 ∨ j = 2 := by omega
    rcases hc with rfl | rfl | rfl <;> simp [wordN] at h9 ⊢ <;> omega)
   have HW := Lib.hid hwd
   obtain ⟨M,hM⟩ : ∃ M,(l ++ (wordB id).take j).length = M := ⟨_,rfl⟩
   have hMl : M ≤ 600000 := by
    have := HL.out
    rw [← hM,List.length_append,List.length_take]
    have : (wordB id).length = 4 := rfl
    omega
   obtain ⟨a2,c2,hv2⟩ := own_form hO.out
   rw [hM] at hv2
   subst hv2
   have hs := hK.out.size
   have HM := Lib.hid hM
   clear hwd hM hY hN
   go_wp2_with (at_builtin;(refine wpList_app1 (w := wr) rfl _ _ 22 rfl w.heap.size i0 Tryz.underlying22 hi hz0 hz1 hz2 (.slice a2 M c2) M (l ++ (wordB id).take j) Y _ rfl rfl rfl (by have := hO.out;unfold OwnB at this;rw [HM.out] at this;exact this) (by omega) hs ?_;intro a3 c3 w3 own3 k3))
   have kk3 : Keeps w w3 [] := hK.out.trans k3 (fun z hz hlz => by
    split at hz
    ·rename_i g hg
     simp at hz
     subst hz
     have := (hO.out.lt _ hg).1
     omega
    ·cases hz)
   have OO : Hid (OwnB w3 w.heap.size (.slice a3 (M + 1) c3) (l ++ (wordB id).take (j + 1))) := Lib.hid (by
    rw [HW.out]
    unfold OwnB
    rw [List.length_append,HM.out]
    exact own3)
   have KK3 := Lib.hid kk3
   clear own3 k3 kk3 hO hK
   go_roundw
   case rel => exact ⟨j + 1,NM,_,by omega,rfl,rfl,by go_num,hnx,OO,KK3⟩
   case measure => simp [intOf];omega
  ·obtain rfl : j = 4 := by omega
   go_wp2_with fail
   go_ret
   have := hO.out
   rw [List.take_of_length_le (by show 4 ≤ 4;omega)] at this
   exact ⟨_,rfl,this,hK.out⟩
end

section
open Go.RowKit
end

section
open Go.RowKit

set_option maxHeartbeats 8000000 in
theorem plain_yes (id g1 g2 g3 a b c : Int) (t n1 n2 n3 x : Value) (T L1 L2 L3 X : List Int) (w : World) (ht : RdI .i64 w t T) (h1 : RdI .i64 w n1 L1) (h2 : RdI .i64 w n2 L2) (h3 : RdI .i64 w n3 L3) (hx : RdI .u8 w x X) (hX : X.length ≤ 1000000) (hxb : ∀ y ∈ X,0 ≤ y ∧ y ≤ 255) (hraw : rawB T L1 L2 L3 g1 g2 g3 a b c X = true) :
  Calls Tryz.prog 36 #[.agg (dictC id t g1 n1 g2 n2 g3 n3 a b c x)] w fun e w' => e = .returned (.bool true) ∧ Keeps w w' [] := by
 have HM := Lib.hid (fun w1 (k : Keeps w w1 []) => marked_any x X w1 (hx.keeps k) hxb)
 have HT1 := Lib.hid (fun w1 (k : Keeps w w1 []) => none1_any g1 n1 L1 w1 (h1.keeps k))
 have HT2 := Lib.hid (fun w1 (k : Keeps w w1 []) => none1_any g2 n2 L2 w1 (h2.keeps k))
 have HT3 := Lib.hid (fun w1 (k : Keeps w w1 []) => none1_any g3 n3 L3 w1 (h3.keeps k))
 have h3q := fun w1 => eq_three a b c 1 4 8 w1
 have e3 : (a == 1 && (b == 4 && c == 8)) = decide (a = 1 ∧ b = 4 ∧ c = 8) := by
  simp only [Bool.decide_and]
  rfl
 simp only [e3] at h3q
 clear e3
 obtain ⟨pa,pm,pc,rfl,htn,-⟩ := ht.form
 obtain ⟨p1a,p1m,p1c,rfl,h1n,-⟩ := h1.form
 obtain ⟨p2a,p2m,p2c,rfl,h2n,-⟩ := h2.form
 obtain ⟨p3a,p3m,p3c,rfl,h3n,-⟩ := h3.form
 obtain ⟨pxa,pxm,pxc,rfl,hxn,-⟩ := hx.form
 have e0 : ((pm : Int) == 0) = decide (T.length = 0) := by rw [← htn,Bool.eq_iff_iff];simp
 have hlen : (pxm : Int) ≤ 134217728 := by omega
 rw [rawB] at hraw
 clear ht h1 h2 h3 hx htn h1n h2n h3n hxn hX hxb
 generalize decide (T.length = 0) = R0 at *
 generalize decide (g1 = 0 ∧ L1 = []) = R1 at *
 generalize decide (g2 = 0 ∧ L2 = []) = R2 at *
 generalize decide (g3 = 0 ∧ L3 = []) = R3 at *
 generalize decide (a = 1 ∧ b = 4 ∧ c = 8) = R4 at *
 generalize markB X = R5 at *
 simp only [Bool.and_eq_true,Bool.not_eq_true'] at hraw
 obtain ⟨rfl,rfl,rfl,rfl,rfl,rfl⟩ := hraw
 go_enter Tryz.func36,Tryz.ntmps36
 go_wp2_with fail
 have z0 := (Blk.new w (dictC id (.slice pa pm pc) g1 (.slice p1a p1m p1c) g2 (.slice p2a p2m p2c) g3 (.slice p3a p3m p3c) a b c (.slice pxa pxm pxc)) 32).alloc (.cells #[.slice pa pm pc,.int .i64 g1,.slice p1a p1m p1c,.int .i64 g2,.slice p2a p2m p2c,.int .i64 g3,.slice p3a p3m p3c,.int .i64 a,.int .i64 b,.int .i64 c] 30)
 have zc := Blk.new (w.alloc (.cells (dictC id (.slice pa pm pc) g1 (.slice p1a p1m p1c) g2 (.slice p2a p2m p2c) g3 (.slice p3a p3m p3c) a b c (.slice pxa pxm pxc)) 32)) #[.slice pa pm pc,.int .i64 g1,.slice p1a p1m p1c,.int .i64 g2,.slice p2a p2m p2c,.int .i64 g3,.slice p3a p3m p3c,.int .i64 a,.int .i64 b,.int .i64 c] 30
 have zk : Keeps w ((w.alloc (.cells (dictC id (.slice pa pm pc) g1 (.slice p1a p1m p1c) g2 (.slice p2a p2m p2c) g3 (.slice p3a p3m p3c) a b c (.slice pxa pxm pxc)) 32)).alloc (.cells #[.slice pa pm pc,.int .i64 g1,.slice p1a p1m p1c,.int .i64 g2,.slice p2a p2m p2c,.int .i64 g3,.slice p3a p3m p3c,.int .i64 a,.int .i64 b,.int .i64 c] 30)) [] := ((Keeps.refl w []).alloc _).alloc _
 simp only [World.size_alloc] at zc
 generalize ((w.alloc (.cells (dictC id (.slice pa pm pc) g1 (.slice p1a p1m p1c) g2 (.slice p2a p2m p2c) g3 (.slice p3a p3m p3c) a b c (.slice pxa pxm pxc)) 32)).alloc (.cells #[.slice pa pm pc,.int .i64 g1,.slice p1a p1m p1c,.int .i64 g2,.slice p2a p2m p2c,.int .i64 g3,.slice p3a p3m p3c,.int .i64 a,.int .i64 b,.int .i64 c] 30)) = w0 at *
 refine wp_region_held_drew (S := (fun w' => Blk w' (w.heap.size + 1) #[.slice pa pm pc,.int .i64 g1,.slice p1a p1m p1c,.int .i64 g2,.slice p2a p2m p2c,.int .i64 g3,.slice p3a p3m p3c,.int .i64 a,.int .i64 b,.int .i64 c] 30 ∧ Blk w' w.heap.size (dictC id (.slice pa pm pc) g1 (.slice p1a p1m p1c) g2 (.slice p2a p2m p2c) g3 (.slice p3a p3m p3c) a b c (.slice pxa pxm pxc)) 32 ∧ Keeps w w' [])) (by kernel_rfl) ⟨zc.drew,z0.drew,zk.drew⟩ (fun hHeld => ?_)
 refine takeM 0 rfl (by intro w9 hSw;have q0 := ctx_cell0 hSw.1;obtain ⟨q1,q2,q3,q4,q5,q6,q7,q8,q9⟩ := ctx_cells hSw.1;have q11 := dict_cell11 hSw.2.1;clear hSw;go_simp;(try with_reducible rfl)) ?_
 try simp only [Act.put,stA,stZ,stS]
 refine takeM 1 rfl (by intro w9 hSw;have q0 := ctx_cell0 hSw.1;obtain ⟨q1,q2,q3,q4,q5,q6,q7,q8,q9⟩ := ctx_cells hSw.1;have q11 := dict_cell11 hSw.2.1;clear hSw;go_simp;(try with_reducible rfl)) ?_
 try simp only [Act.put,stA,stZ,stS]
 refine takeM 2 rfl (by intro w9 hSw;have q0 := ctx_cell0 hSw.1;obtain ⟨q1,q2,q3,q4,q5,q6,q7,q8,q9⟩ := ctx_cells hSw.1;have q11 := dict_cell11 hSw.2.1;clear hSw;go_simp;(try with_reducible rfl)) ?_
 try simp only [Act.put,stA,stZ,stS]
 refine takeM 3 rfl (by intro w9 hSw;have q0 := ctx_cell0 hSw.1;obtain ⟨q1,q2,q3,q4,q5,q6,q7,q8,q9⟩ := ctx_cells hSw.1;have q11 := dict_cell11 hSw.2.1;clear hSw;go_simp;(try with_reducible rfl)) ?_
 try simp only [Act.put,stA,stZ,stS]
 refine takeM 4 rfl (by intro w9 hSw;have q0 := ctx_cell0 hSw.1;obtain ⟨q1,q2,q3,q4,q5,q6,q7,q8,q9⟩ := ctx_cells hSw.1;have q11 := dict_cell11 hSw.2.1;clear hSw;go_simp;(try with_reducible rfl)) ?_
 try simp only [Act.put,stA,stZ,stS]
 refine takeM 5 rfl (by intro w9 hSw;have q0 := ctx_cell0 hSw.1;obtain ⟨q1,q2,q3,q4,q5,q6,q7,q8,q9⟩ := ctx_cells hSw.1;have q11 := dict_cell11 hSw.2.1;clear hSw;go_simp;(try with_reducible rfl)) ?_
 try simp only [Act.put,stA,stZ,stS]
 refine takeM 6 rfl (by intro w9 hSw;have q0 := ctx_cell0 hSw.1;obtain ⟨q1,q2,q3,q4,q5,q6,q7,q8,q9⟩ := ctx_cells hSw.1;have q11 := dict_cell11 hSw.2.1;clear hSw;go_simp;(try with_reducible rfl)) ?_
 try simp only [Act.put,stA,stZ,stS]
 refine takeM 7 rfl (by intro w9 hSw;have q0 := ctx_cell0 hSw.1;obtain ⟨q1,q2,q3,q4,q5,q6,q7,q8,q9⟩ := ctx_cells hSw.1;have q11 := dict_cell11 hSw.2.1;clear hSw;go_simp;(try with_reducible rfl)) ?_
 try simp only [Act.put,stA,stZ,stS]
 refine callL (i := 8) rfl (by kernel_rfl) (fun Kont hK => ?_)
 go_simp
 refine (HT1.out _ hHeld.2.2).mono ?_;rintro e w1 ⟨rfl,kk⟩
 go_wp2_with fail
 refine hK.out _ _ ?_ (fun hHeld => ?_)
 ·(exact ⟨hHeld.1.keeps kk (by simp),hHeld.2.1.keeps kk (by simp),hHeld.2.2.then kk⟩)
 clear hK Kont
 refine takeM 9 rfl (by intro w9 hSw;have q0 := ctx_cell0 hSw.1;obtain ⟨q1,q2,q3,q4,q5,q6,q7,q8,q9⟩ := ctx_cells hSw.1;have q11 := dict_cell11 hSw.2.1;clear hSw;go_simp;(try with_reducible rfl)) ?_
 try simp only [Act.put,stA,stZ,stS]
 refine takeM 10 rfl (by intro w9 hSw;have q0 := ctx_cell0 hSw.1;obtain ⟨q1,q2,q3,q4,q5,q6,q7,q8,q9⟩ := ctx_cells hSw.1;have q11 := dict_cell11 hSw.2.1;clear hSw;go_simp;(try with_reducible rfl)) ?_
 try simp only [Act.put,stA,stZ,stS]
 refine takeM 11 rfl (by intro w9 hSw;have q0 := ctx_cell0 hSw.1;obtain ⟨q1,q2,q3,q4,q5,q6,q7,q8,q9⟩ := ctx_cells hSw.1;have q11 := dict_cell11 hSw.2.1;clear hSw;go_simp;(try with_reducible rfl)) ?_
 try simp only [Act.put,stA,stZ,stS]
 refine takeM 12 rfl (by intro w9 hSw;have q0 := ctx_cell0 hSw.1;obtain ⟨q1,q2,q3,q4,q5,q6,q7,q8,q9⟩ := ctx_cells hSw.1;have q11 := dict_cell11 hSw.2.1;clear hSw;go_simp;(try with_reducible rfl)) ?_
 try simp only [Act.put,stA,stZ,stS]
 refine takeM 13 rfl (by intro w9 hSw;have q0 := ctx_cell0 hSw.1;obtain ⟨q1,q2,q3,q4,q5,q6,q7,q8,q9⟩ := ctx_cells hSw.1;have q11 := dict_cell11 hSw.2.1;clear hSw;go_simp;(try with_reducible rfl)) ?_
 try simp only [Act.put,stA,stZ,stS]
 refine callL (i := 14) rfl (by kernel_rfl) (fun Kont hK => ?_)
 go_simp
 refine (HT2.out _ hHeld.2.2).mono ?_;rintro e w2 ⟨rfl,kk⟩
 go_wp2_with fail
 refine hK.out _ _ ?_ (fun hHeld => ?_)
 ·(exact ⟨hHeld.1.keeps kk (by simp),hHeld.2.1.keeps kk (by simp),hHeld.2.2.then kk⟩)
 clear hK Kont
 refine takeM 15 rfl (by intro w9 hSw;have q0 := ctx_cell0 hSw.1;obtain ⟨q1,q2,q3,q4,q5,q6,q7,q8,q9⟩ := ctx_cells hSw.1;have q11 := dict_cell11 hSw.2.1;clear hSw;go_simp;(try with_reducible rfl)) ?_
 try simp only [Act.put,stA,stZ,stS]
 refine takeM 16 rfl (by intro w9 hSw;have q0 := ctx_cell0 hSw.1;obtain ⟨q1,q2,q3,q4,q5,q6,q7,q8,q9⟩ := ctx_cells hSw.1;have q11 := dict_cell11 hSw.2.1;clear hSw;go_simp;(try with_reducible rfl)) ?_
 try simp only [Act.put,stA,stZ,stS]
 refine takeM 17 rfl (by intro w9 hSw;have q0 := ctx_cell0 hSw.1;obtain ⟨q1,q2,q3,q4,q5,q6,q7,q8,q9⟩ := ctx_cells hSw.1;have q11 := dict_cell11 hSw.2.1;clear hSw;go_simp;(try with_reducible rfl)) ?_
 try simp only [Act.put,stA,stZ,stS]
 refine takeM 18 rfl (by intro w9 hSw;have q0 := ctx_cell0 hSw.1;obtain ⟨q1,q2,q3,q4,q5,q6,q7,q8,q9⟩ := ctx_cells hSw.1;have q11 := dict_cell11 hSw.2.1;clear hSw;go_simp;(try with_reducible rfl)) ?_
 try simp only [Act.put,stA,stZ,stS]
 refine takeM 19 rfl (by intro w9 hSw;have q0 := ctx_cell0 hSw.1;obtain ⟨q1,q2,q3,q4,q5,q6,q7,q8,q9⟩ := ctx_cells hSw.1;have q11 := dict_cell11 hSw.2.1;clear hSw;go_simp;(try with_reducible rfl)) ?_
 try simp only [Act.put,stA,stZ,stS]
 refine callL (i := 20) rfl (by kernel_rfl) (fun Kont hK => ?_)
 go_simp
 refine (HT3.out _ hHeld.2.2).mono ?_;rintro e w3 ⟨rfl,kk⟩
 go_wp2_with fail
 refine hK.out _ _ ?_ (fun hHeld => ?_)
 ·(exact ⟨hHeld.1.keeps kk (by simp),hHeld.2.1.keeps kk (by simp),hHeld.2.2.then kk⟩)
 clear hK Kont
 refine takeM 21 rfl (by intro w9 hSw;have q0 := ctx_cell0 hSw.1;obtain ⟨q1,q2,q3,q4,q5,q6,q7,q8,q9⟩ := ctx_cells hSw.1;have q11 := dict_cell11 hSw.2.1;clear hSw;go_simp;(try with_reducible rfl)) ?_
 try simp only [Act.put,stA,stZ,stS]
 refine takeM 22 rfl (by intro w9 hSw;have q0 := ctx_cell0 hSw.1;obtain ⟨q1,q2,q3,q4,q5,q6,q7,q8,q9⟩ := ctx_cells hSw.1;have q11 := dict_cell11 hSw.2.1;clear hSw;go_simp;(try with_reducible rfl)) ?_
 try simp only [Act.put,stA,stZ,stS]
 refine takeM 23 rfl (by intro w9 hSw;have q0 := ctx_cell0 hSw.1;obtain ⟨q1,q2,q3,q4,q5,q6,q7,q8,q9⟩ := ctx_cells hSw.1;have q11 := dict_cell11 hSw.2.1;clear hSw;go_simp;(try with_reducible rfl)) ?_
 try simp only [Act.put,stA,stZ,stS]
 refine takeM 24 rfl (by intro w9 hSw;have q0 := ctx_cell0 hSw.1;obtain ⟨q1,q2,q3,q4,q5,q6,q7,q8,q9⟩ := ctx_cells hSw.1;have q11 := dict_cell11 hSw.2.1;clear hSw;go_simp;(try with_reducible rfl)) ?_
 try simp only [Act.put,stA,stZ,stS]
 refine callL (i := 25) rfl (by kernel_rfl) (fun Kont hK => ?_)
 go_simp
 refine (first_any _).mono ?_;rintro e w4 ⟨rfl,kk⟩
 go_wp2_with fail
 refine hK.out _ _ ?_ (fun hHeld => ?_)
 ·(exact ⟨hHeld.1.keeps kk (by simp),hHeld.2.1.keeps kk (by simp),hHeld.2.2.then kk⟩)
 clear hK Kont
 refine takeM 26 rfl (by intro w9 hSw;have q0 := ctx_cell0 hSw.1;obtain ⟨q1,q2,q3,q4,q5,q6,q7,q8,q9⟩ := ctx_cells hSw.1;have q11 := dict_cell11 hSw.2.1;clear hSw;go_simp;(try with_reducible rfl)) ?_
 try simp only [Act.put,stA,stZ,stS]
 refine takeM 27 rfl (by intro w9 hSw;have q0 := ctx_cell0 hSw.1;obtain ⟨q1,q2,q3,q4,q5,q6,q7,q8,q9⟩ := ctx_cells hSw.1;have q11 := dict_cell11 hSw.2.1;clear hSw;go_simp;(try with_reducible rfl)) ?_
 try simp only [Act.put,stA,stZ,stS]
 refine takeM 28 rfl (by intro w9 hSw;have q0 := ctx_cell0 hSw.1;obtain ⟨q1,q2,q3,q4,q5,q6,q7,q8,q9⟩ := ctx_cells hSw.1;have q11 := dict_cell11 hSw.2.1;clear hSw;go_simp;(try with_reducible rfl)) ?_
 try simp only [Act.put,stA,stZ,stS]
 refine takeM 29 rfl (by intro w9 hSw;have q0 := ctx_cell0 hSw.1;obtain ⟨q1,q2,q3,q4,q5,q6,q7,q8,q9⟩ := ctx_cells hSw.1;have q11 := dict_cell11 hSw.2.1;clear hSw;go_simp;(try with_reducible rfl)) ?_
 try simp only [Act.put,stA,stZ,stS]
 refine takeM 30 rfl (by intro w9 hSw;have q0 := ctx_cell0 hSw.1;obtain ⟨q1,q2,q3,q4,q5,q6,q7,q8,q9⟩ := ctx_cells hSw.1;have q11 := dict_cell11 hSw.2.1;clear hSw;go_simp;(try with_reducible rfl)) ?_
 try simp only [Act.put,stA,stZ,stS]
 refine callL (i := 31) rfl (by kernel_rfl) (fun Kont hK => ?_)
 go_simp
 refine (HM.out _ hHeld.2.2).mono ?_;rintro e w5 ⟨rfl,kk⟩
 go_wp2_with fail
 refine hK.out _ _ ?_ (fun hHeld => ?_)
 ·(exact ⟨hHeld.1.keeps kk (by simp),hHeld.2.1.keeps kk (by simp),hHeld.2.2.then kk⟩)
 clear hK Kont
 refine takeM 32 rfl (by intro w9 hSw;have q0 := ctx_cell0 hSw.1;obtain ⟨q1,q2,q3,q4,q5,q6,q7,q8,q9⟩ := ctx_cells hSw.1;have q11 := dict_cell11 hSw.2.1;clear hSw;go_simp;(try with_reducible rfl)) ?_
 try simp only [Act.put,stA,stZ,stS]
 refine takeM 33 rfl (by intro w9 hSw;have q0 := ctx_cell0 hSw.1;obtain ⟨q1,q2,q3,q4,q5,q6,q7,q8,q9⟩ := ctx_cells hSw.1;have q11 := dict_cell11 hSw.2.1;clear hSw;go_simp;(try with_reducible rfl)) ?_
 try simp only [Act.put,stA,stZ,stS]
 refine takeM 34 rfl (by intro w9 hSw;have q0 := ctx_cell0 hSw.1;obtain ⟨q1,q2,q3,q4,q5,q6,q7,q8,q9⟩ := ctx_cells hSw.1;have q11 := dict_cell11 hSw.2.1;clear hSw;go_simp;(try with_reducible rfl)) ?_
 try simp only [Act.put,stA,stZ,stS]
 refine takeM 35 rfl (by intro w9 hSw;have q0 := ctx_cell0 hSw.1;obtain ⟨q1,q2,q3,q4,q5,q6,q7,q8,q9⟩ := ctx_cells hSw.1;have q11 := dict_cell11 hSw.2.1;clear hSw;go_simp;(try with_reducible rfl)) ?_
 try simp only [Act.put,stA,stZ,stS]
 refine takeM 36 rfl (by intro w9 hSw;have q0 := ctx_cell0 hSw.1;obtain ⟨q1,q2,q3,q4,q5,q6,q7,q8,q9⟩ := ctx_cells hSw.1;have q11 := dict_cell11 hSw.2.1;clear hSw;go_simp;(try with_reducible rfl)) ?_
 try simp only [Act.put,stA,stZ,stS]
 refine takeM 37 rfl (by intro w9 hSw;have q0 := ctx_cell0 hSw.1;obtain ⟨q1,q2,q3,q4,q5,q6,q7,q8,q9⟩ := ctx_cells hSw.1;have q11 := dict_cell11 hSw.2.1;clear hSw;go_simp;(try with_reducible rfl)) ?_
 try simp only [Act.put,stA,stZ,stS]
 refine takeM 38 rfl (by intro w9 hSw;have q0 := ctx_cell0 hSw.1;obtain ⟨q1,q2,q3,q4,q5,q6,q7,q8,q9⟩ := ctx_cells hSw.1;have q11 := dict_cell11 hSw.2.1;clear hSw;go_simp;(try with_reducible rfl)) ?_
 try simp only [Act.put,stA,stZ,stS]
 refine takeM 39 rfl (by intro w9 hSw;have q0 := ctx_cell0 hSw.1;obtain ⟨q1,q2,q3,q4,q5,q6,q7,q8,q9⟩ := ctx_cells hSw.1;have q11 := dict_cell11 hSw.2.1;clear hSw;go_simp;(try with_reducible rfl)) ?_
 try simp only [Act.put,stA,stZ,stS]
 refine takeM 40 rfl (by intro w9 hSw;have q0 := ctx_cell0 hSw.1;obtain ⟨q1,q2,q3,q4,q5,q6,q7,q8,q9⟩ := ctx_cells hSw.1;have q11 := dict_cell11 hSw.2.1;clear hSw;go_simp;(try with_reducible rfl)) ?_
 try simp only [Act.put,stA,stZ,stS]
 refine wpAnyH_done (by kernel_rfl) ?_ _
 go_wp2_with fail
 go_ret
 exact ⟨by simp,hHeld.2.2⟩

set_option maxHeartbeats 8000000 in
theorem valid_yes (id g1 g2 g3 a b c : Int) (t n1 n2 n3 x : Value) (T L1 L2 L3 X : List Int) (w : World) (ht : RdI .i64 w t T) (h1 : RdI .i64 w n1 L1) (h2 : RdI .i64 w n2 L2) (h3 : RdI .i64 w n3 L3) (hx : RdI .u8 w x X) (hT : T.length ≤ 1000000) (hL1 : L1.length ≤ 1000000) (hL2 : L2.length ≤ 1000000) (hL3 : L3.length ≤ 1000000) (hX : X.length ≤ 1000000) (hxb : ∀ y ∈ X,0 ≤ y ∧ y ≤ 255) (hb1 : ∀ x ∈ L1,-9223372036854775808 ≤ x ∧ x ≤ 9223372036854775807) (hb2 : ∀ x ∈ L2,-9223372036854775808 ≤ x ∧ x ≤ 9223372036854775807) (hb3 : ∀ x ∈ L3,-9223372036854775808 ≤ x ∧ x ≤ 9223372036854775807) (hV : validB id T L1 L2 L3 g1 g2 g3 a b c X = true) :
  Calls Tryz.prog 17 #[.agg (dictC id t g1 n1 g2 n2 g3 n3 a b c x)] w fun e w' => e = .returned (.bool true) ∧ Keeps w w' [] := by
 by_cases hid : id = 0
 ·subst hid
  rw [validB,if_pos rfl] at hV
  have HP := Lib.hid (fun w1 (k : Keeps w w1 []) => plain_yes 0 g1 g2 g3 a b c t n1 n2 n3 x T L1 L2 L3 X w1 (ht.keeps k) (h1.keeps k) (h2.keeps k) (h3.keeps k) (hx.keeps k) hX hxb hV)
  obtain ⟨pa,pm,pc,rfl,htn,-⟩ := ht.form
  obtain ⟨p1a,p1m,p1c,rfl,h1n,-⟩ := h1.form
  obtain ⟨p2a,p2m,p2c,rfl,h2n,-⟩ := h2.form
  obtain ⟨p3a,p3m,p3c,rfl,h3n,-⟩ := h3.form
  obtain ⟨pxa,pxm,pxc,rfl,hxn,-⟩ := hx.form
  clear ht h1 h2 h3 hx htn h1n h2n h3n hxn hT hL1 hL2 hL3 hX hxb hb1 hb2 hb3 hV
  go_enter Tryz.func17,Tryz.ntmps17
  go_wp2_with (go_at_call 36;(refine (HP.out _ ((Keeps.refl _ _).alloc _)).mono ?_;rintro e w2 ⟨rfl,kk⟩))
  go_ret
  exact ⟨rfl,((Keeps.refl _ _).alloc _).then kk⟩
 rw [show true = validB id T L1 L2 L3 g1 g2 g3 a b c X from hV.symm,validB,if_neg hid,fullB]
 have hid0 : (id == 0) = false := by simpa using hid
 have HC := Lib.hid (fun w1 (k : Keeps w w1 []) => ccheck_any t T w1 (ht.keeps k) hT)
 have HT1 := Lib.hid (fun w1 (k : Keeps w w1 []) => dtable_any g1 44 9 n1 L1 w1 (h1.keeps k) hL1 hb1 (by omega) (by omega))
 have HT2 := Lib.hid (fun w1 (k : Keeps w w1 []) => dtable_any g2 28 8 n2 L2 w1 (h2.keeps k) hL2 hb2 (by omega) (by omega))
 have HT3 := Lib.hid (fun w1 (k : Keeps w w1 []) => dtable_any g3 44 9 n3 L3 w1 (h3.keeps k) hL3 hb3 (by omega) (by omega))
 have HTR := Lib.hid (fun w1 (k : Keeps w w1 []) => ht.keeps k)
 obtain ⟨pa,pm,pc,rfl,htn,-⟩ := ht.form
 obtain ⟨p1a,p1m,p1c,rfl,h1n,-⟩ := h1.form
 obtain ⟨p2a,p2m,p2c,rfl,h2n,-⟩ := h2.form
 obtain ⟨p3a,p3m,p3c,rfl,h3n,-⟩ := h3.form
 obtain ⟨pxa,pxm,pxc,rfl,hxn,-⟩ := hx.form
 have hxl : (X.length : Int) = (pxm : Int) := by omega
 have hlen : (pxm : Int) ≤ 134217728 := by omega
 have HN := Lib.hid htn
 have hpm : pm ≤ 1000000 := by omega
 rw [hxl]
 clear ht h1 h2 h3 hx h1n h2n h3n hxn hT hL1 hL2 hL3 hX hxb hb1 hb2 hb3 htn hxl hV
 obtain ⟨R5,e5⟩ : ∃ R,decide (8 ≤ (pxm : Int)) = R := ⟨_,rfl⟩
 obtain ⟨R6,e6⟩ : ∃ R,[a,b,c].any (badR (pxm : Int)) = R := ⟨_,rfl⟩
 rw [e5,e6]
 have E6 := Lib.hid e6
 clear e6
 generalize tblB g1 L1 44 9 = R1 at *
 generalize tblB g2 L2 28 8 = R2 at *
 generalize tblB g3 L3 44 9 = R3 at *
 have HTL : Hid (treeL T = true → 1 < T.length) := fun h => by
  have := (treeL_iff.1 h).2.2.1
  have := usedL_len T
  omega
 obtain ⟨RY,hRY⟩ : ∃ R,decide (T.getD (T.length - 1) 0 = 0) = R := ⟨_,rfl⟩
 rw [hRY]
 have HRY := Lib.hid hRY
 clear hRY
 obtain ⟨RT,hRT⟩ : ∃ R,treeL T = R := ⟨_,rfl⟩
 rw [hRT] at HC HTL ⊢
 clear hRT
 have z0 := (Blk.new w (dictC id (.slice pa pm pc) g1 (.slice p1a p1m p1c) g2 (.slice p2a p2m p2c) g3 (.slice p3a p3m p3c) a b c (.slice pxa pxm pxc)) 32).alloc (.cells #[.slice pa pm pc,.int .i64 g1,.slice p1a p1m p1c,.int .i64 g2,.slice p2a p2m p2c,.int .i64 g3,.slice p3a p3m p3c,.int .i64 a,.int .i64 b,.int .i64 c] 30)
 have zc := Blk.new (w.alloc (.cells (dictC id (.slice pa pm pc) g1 (.slice p1a p1m p1c) g2 (.slice p2a p2m p2c) g3 (.slice p3a p3m p3c) a b c (.slice pxa pxm pxc)) 32)) #[.slice pa pm pc,.int .i64 g1,.slice p1a p1m p1c,.int .i64 g2,.slice p2a p2m p2c,.int .i64 g3,.slice p3a p3m p3c,.int .i64 a,.int .i64 b,.int .i64 c] 30
 have zk : Keeps w ((w.alloc (.cells (dictC id (.slice pa pm pc) g1 (.slice p1a p1m p1c) g2 (.slice p2a p2m p2c) g3 (.slice p3a p3m p3c) a b c (.slice pxa pxm pxc)) 32)).alloc (.cells #[.slice pa pm pc,.int .i64 g1,.slice p1a p1m p1c,.int .i64 g2,.slice p2a p2m p2c,.int .i64 g3,.slice p3a p3m p3c,.int .i64 a,.int .i64 b,.int .i64 c] 30)) [] := ((Keeps.refl w []).alloc _).alloc _
 simp only [World.size_alloc] at zc
 go_enter Tryz.func17,Tryz.ntmps17
 go_wp2_with fail
 generalize ((w.alloc (.cells (dictC id (.slice pa pm pc) g1 (.slice p1a p1m p1c) g2 (.slice p2a p2m p2c) g3 (.slice p3a p3m p3c) a b c (.slice pxa pxm pxc)) 32)).alloc (.cells #[.slice pa pm pc,.int .i64 g1,.slice p1a p1m p1c,.int .i64 g2,.slice p2a p2m p2c,.int .i64 g3,.slice p3a p3m p3c,.int .i64 a,.int .i64 b,.int .i64 c] 30)) = w0 at *
 have f1 := ctx_cell0 zc
 obtain ⟨a1,a2,a3,a4,a5,a6,a7,a8,a9⟩ := ctx_cells zc
 have d1 := dict_cell11 z0
 have o1 := dict_cell0 z0
 refine (HC.out _ zk).mono ?_
 rintro e w1 ⟨rfl,kk⟩
 replace zc := zc.keeps kk (by simp)
 replace z0 := z0.keeps kk (by simp)
 replace zk := zk.then kk
 clear kk a1 a2 a3 a4 a5 a6 a7 a8 a9 d1 f1 o1
 have f1 := ctx_cell0 zc
 obtain ⟨a1,a2,a3,a4,a5,a6,a7,a8,a9⟩ := ctx_cells zc
 have d1 := dict_cell11 z0
 have o1 := dict_cell0 z0
 cases RT
 ·go_wp2_with fail
  go_ret
  exact ⟨by simp,zk⟩
 obtain ⟨m,rfl⟩ : ∃ m,pm = m + 1 := ⟨pm - 1,by have := HN.out;have := HTL.out rfl;omega⟩
 obtain ⟨y,hy⟩ : ∃ y,T[m]? = some y := ⟨_,List.getElem?_eq_getElem (by have := HN.out;omega)⟩
 obtain ⟨bb,o,rfl,hbb,hc⟩ := (HTR.out _ zk).at hy
 have hcap := (HTR.out _ zk).cap
 have HY : T.getD (T.length - 1) 0 = y := by
  rw [← HN.out,Nat.add_sub_cancel,List.getD_eq_getElem?_getD,hy];rfl
 have ey : (y == 0) = RY := by rw [← HRY.out,HY];rfl
 clear hy HY
 rcases Bool.eq_false_or_eq_true RY with rfl | rfl
 ·go_wp2_with fail
  go_ret
  exact ⟨by simp,zk⟩
 go_wp2_with fail
 refine (HT2.out _ zk).mono ?_
 rintro e w2 ⟨rfl,kk⟩
 replace zc := zc.keeps kk (by simp)
 replace z0 := z0.keeps kk (by simp)
 replace zk := zk.then kk
 clear kk hc hbb a1 a2 a3 a4 a5 a6 a7 a8 a9 d1 f1 o1
 have f1 := ctx_cell0 zc
 obtain ⟨a1,a2,a3,a4,a5,a6,a7,a8,a9⟩ := ctx_cells zc
 have d1 := dict_cell11 z0
 have o1 := dict_cell0 z0
 cases R2
 ·go_wp2_with fail
  go_ret
  exact ⟨by simp,zk⟩
 go_wp2_with fail
 refine (HT3.out _ zk).mono ?_
 rintro e w3' ⟨rfl,kk⟩
 replace zc := zc.keeps kk (by simp)
 replace z0 := z0.keeps kk (by simp)
 replace zk := zk.then kk
 clear kk a1 a2 a3 a4 a5 a6 a7 a8 a9 d1 f1 o1
 have f1 := ctx_cell0 zc
 obtain ⟨a1,a2,a3,a4,a5,a6,a7,a8,a9⟩ := ctx_cells zc
 have d1 := dict_cell11 z0
 have o1 := dict_cell0 z0
 cases R3
 ·go_wp2_with fail
  go_ret
  exact ⟨by simp,zk⟩
 go_wp2_with fail
 refine (HT1.out _ zk).mono ?_
 rintro e w1' ⟨rfl,kk⟩
 replace zc := zc.keeps kk (by simp)
 replace z0 := z0.keeps kk (by simp)
 replace zk := zk.then kk
 clear kk a1 a2 a3 a4 a5 a6 a7 a8 a9 d1 f1 o1
 have f1 := ctx_cell0 zc
 obtain ⟨a1,a2,a3,a4,a5,a6,a7,a8,a9⟩ := ctx_cells zc
 have d1 := dict_cell11 z0
 have o1 := dict_cell0 z0
 cases R1
 ·go_wp2_with fail
  go_ret
  exact ⟨by simp,zk⟩
 have zn := Blk.new w1' #[.int .i64 pxm] 3
 have zc' := zc.alloc (.cells #[.int .i64 pxm] 3)
 have zk' := zk.alloc (.cells #[.int .i64 pxm] 3)
 have hrd : RdI .i64 (w1'.alloc (.cells #[.int .i64 pxm] 3)) (.slice (some ⟨w.heap.size + 1,7,none⟩) 3 3) [a,b,c] :=
  ⟨_,_,_,rfl,rfl,(fun h => by cases h),fun _ => ⟨Nat.le_refl _,_,_,rfl,zc'.lt,fun i z hz => by
   match i,hz with
   | 0,hz => simp at hz;subst hz;exact zc'.cell 7
   | 1,hz => simp at hz;subst hz;exact zc'.cell 8
   | 2,hz => simp at hz;subst hz;exact zc'.cell 9⟩⟩
 have HHB := Lib.hid (hasBad_any pxm w1'.heap.size _ [a,b,c] _ zn hrd (by simp))
 clear hrd
 rw [E6.out] at HHB
 cases R5
 ·go_wp2_with fail
  go_ret
  exact ⟨by simp,zk'⟩
 go_wp2_with fail
 refine HHB.out.mono ?_
 rintro e w6 ⟨rfl,rfl⟩
 go_wp2_with fail
 go_ret
 exact ⟨by simp,zk'⟩
end

end Go.Proofs.YtcmagccfagijlaaGreat
