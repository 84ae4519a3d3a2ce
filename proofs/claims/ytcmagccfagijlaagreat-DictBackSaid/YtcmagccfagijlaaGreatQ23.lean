/-
  Walks over package desc: number, put, Encode. (Printed by mkZd.py.)
-/
import Derived.Test.YtcmagccfagijlaaGreatQ22
import Derived.Test.YtcmagccfagijlaaGreatQ11
namespace Go.Proofs.YtcmagccfagijlaaGreat
set_option linter.unusedVariables false
set_option linter.unusedSimpArgs false
set_option linter.unusedSectionVars false
set_option maxRecDepth 100000
open Go.RowKit

theorem normsE_fuel : ∀ {f f' left : Nat} {l : List Int},l.length ≤ f → l.length ≤ f' → normsE f left l = normsE f' left l
 | 0,f',left,l,h,_ => by
  obtain rfl : l = [] := List.eq_nil_of_length_eq_zero (by omega)
  cases f' <;> rfl
 | f + 1,0,left,l,_,h => by
  obtain rfl : l = [] := List.eq_nil_of_length_eq_zero (by omega)
  rfl
 | f + 1,f' + 1,left,[],_,_ => rfl
 | f + 1,f' + 1,left,n :: l,h1,h2 => by
  simp only [List.length_cons] at h1 h2
  unfold normsE
  rw [normsE_fuel (f := f) (f' := f') (l := l.drop (zrL l)) (by rw [List.length_drop];omega) (by rw [List.length_drop];omega),normsE_fuel (f := f) (f' := f') (l := l) (by omega) (by omega)]
theorem numB_len {m v : Nat} : (numB m v).length ≤ m.log2 + 1 := by
 unfold numB
 split
 ·rw [bitsN_len];omega
 ·rw [List.length_append,bitsN_len,bitsN_len];omega
theorem zerosE_len : ∀ (f k : Nat),(zerosE f k).length ≤ 2 * f + 2
 | 0,k => by unfold zerosE;rw [bitsN_len];omega
 | f + 1,k => by
  have := zerosE_len f (k - 3)
  unfold zerosE
  split
  ·rw [List.length_append,bitsN_len];omega
  ·rw [bitsN_len];omega
theorem normsE_len : ∀ {f left : Nat} {l : List Int},left ≤ 512 → (normsE f left l).length ≤ 14 * l.length
 | 0,left,l,_ => by unfold normsE;simp
 | f + 1,left,[],_ => by unfold normsE;simp
 | f + 1,left,n :: l,h => by
  have h1 := numB_len (m := left + 2) (v := (n + 1).toNat)
  have h2 := log2_small (m := left + 2) (by omega) (by omega)
  have h3 := zrL_le l
  unfold normsE
  rw [List.length_append,List.length_cons]
  split
  ·have h4 := zerosE_len (zrL l) (zrL l)
   have h5 := normsE_len (f := f) (left := left) (l := l.drop (zrL l)) h
   rw [List.length_append]
   rw [List.length_drop] at h5
   omega
  ·have h5 := normsE_len (f := f) (left := left - (stN n).toNat) (l := l) (by omega)
   omega
theorem zr_at : ∀ {l : List Int} {r : Nat},r < zrL l → l[r]? = some 0
 | [],r,h => by simp [zrL] at h
 | n :: l,r,h => by
  unfold zrL at h
  split at h
  ·rename_i hn
   subst hn
   cases r with
   | zero => rfl
   | succ r => rw [List.getElem?_cons_succ];exact zr_at (by omega)
  ·omega
theorem zr_end {l : List Int} (h : zrL l < l.length) : ∃ y,y ≠ 0 ∧ l[zrL l]? = some y := by
 obtain ⟨y,hy⟩ : ∃ y,l[zrL l]? = some y := ⟨_,List.getElem?_eq_getElem h⟩
 refine ⟨y,fun h0 => ?_,hy⟩
 subst h0
 have := zrL_head l
 rw [List.head?_drop,hy] at this
 exact this rfl
theorem zr_room {norm : List Int} {i : Nat} (h : norm.getD (norm.length - 1) 0 ≠ 0) (hi : norm[i]? = some 0) : i + 1 + zrL (norm.drop (i + 1)) < norm.length := by
 have hil := (List.getElem?_eq_some_iff.1 hi).1
 have hz := zrL_le (norm.drop (i + 1))
 rw [List.length_drop] at hz
 by_cases hb : i + 1 + zrL (norm.drop (i + 1)) < norm.length
 ·exact hb
 ·exfalso
  apply h
  rw [List.getD_eq_getElem?_getD]
  by_cases he : i + 1 = norm.length
  ·rw [show norm.length - 1 = i by omega,hi];rfl
  ·have := zr_at (l := norm.drop (i + 1)) (r := norm.length - 1 - (i + 1)) (by omega)
   rw [List.getElem?_drop,show i + 1 + (norm.length - 1 - (i + 1)) = norm.length - 1 by omega] at this
   rw [this];rfl

def PutSt (norm : List Int) (T : List Bool) (i left run : Nat) (Lw : List Bool) : Prop :=
 Lw ++ normsE norm.length left (norm.drop (i + run)) = T ∧ sumN (norm.drop (i + run)) = (left : Int) ∧ i + run ≤ norm.length
theorem drop_cons {norm : List Int} {i : Nat} {x : Int} (h : norm[i]? = some x) : norm.drop i = x :: norm.drop (i + 1) := by
 have hl := (List.getElem?_eq_some_iff.1 h).1
 rw [List.drop_eq_getElem_cons hl,(List.getElem?_eq_some_iff.1 h).2]
theorem put_pass {norm : List Int} {T Lw : List Bool} {i left run : Nat} (h : PutSt norm T i left (run + 1) Lw) : PutSt norm T (i + 1) left run Lw := by
 obtain ⟨h1,h2,h3⟩ := h
 rw [show i + (run + 1) = i + 1 + run by omega] at h1 h2 h3
 exact ⟨h1,h2,h3⟩
theorem put_room {norm : List Int} {T Lw : List Bool} {i left : Nat} {x : Int} (h : PutSt norm T i left 0 Lw) (hx : norm[i]? = some x) (hlow : ∀ n ∈ norm,-1 ≤ n) : stN x ≤ (left : Int) := by
 obtain ⟨h1,h2,h3⟩ := h
 rw [Nat.add_zero,drop_cons hx,sumN] at h2
 have := sumN_nonneg (l := norm.drop (i + 1)) (fun n hn => hlow n (List.mem_of_mem_drop hn))
 omega
theorem put_one {norm : List Int} {T Lw : List Bool} {i left : Nat} {x : Int} (h : PutSt norm T i left 0 Lw) (hx : norm[i]? = some x) (h0 : x ≠ 0) (hlow : ∀ n ∈ norm,-1 ≤ n) :
  PutSt norm T (i + 1) (left - (stN x).toNat) 0 (Lw ++ numB (left + 2) (x + 1).toNat) := by
 have hr := put_room h hx hlow
 have hn := stN_nonneg (hlow x (List.mem_of_getElem? hx))
 have hl := (List.getElem?_eq_some_iff.1 hx).1
 obtain ⟨h1,h2,h3⟩ := h
 rw [Nat.add_zero,drop_cons hx] at h1 h2
 obtain ⟨f,hf⟩ : ∃ f,norm.length = f + 1 := ⟨norm.length - 1,by omega⟩
 refine ⟨?_,?_,by omega⟩
 ·rw [← h1,Nat.add_zero,hf,normsE,if_neg h0,List.append_assoc,normsE_fuel (f := f + 1) (f' := f) (by rw [List.length_drop];omega) (by rw [List.length_drop];omega)]
 ·rw [Nat.add_zero]
  simp only [sumN] at h2
  omega
theorem put_zero {norm : List Int} {T Lw : List Bool} {i left : Nat} (h : PutSt norm T i left 0 Lw) (hx : norm[i]? = some 0) :
  PutSt norm T (i + 1) left (zrL (norm.drop (i + 1))) (Lw ++ numB (left + 2) 1 ++ zerosE (zrL (norm.drop (i + 1))) (zrL (norm.drop (i + 1)))) := by
 have hl := (List.getElem?_eq_some_iff.1 hx).1
 have hz := zrL_le (norm.drop (i + 1))
 rw [List.length_drop] at hz
 obtain ⟨h1,h2,h3⟩ := h
 rw [Nat.add_zero,drop_cons hx] at h1 h2
 obtain ⟨f,hf⟩ : ∃ f,norm.length = f + 1 := ⟨norm.length - 1,by omega⟩
 have hd : norm.drop (i + 1 + zrL (norm.drop (i + 1))) = (norm.drop (i + 1)).drop (zrL (norm.drop (i + 1))) := by rw [List.drop_drop]
 refine ⟨?_,?_,by omega⟩
 ·rw [hd,← h1,hf,normsE,if_pos rfl,List.append_assoc,List.append_assoc,normsE_fuel (f := f + 1) (f' := f) (by rw [List.length_drop,List.length_drop];omega) (by rw [List.length_drop,List.length_drop];omega)]
  rfl
 ·have hs := zrL_split (norm.drop (i + 1))
  have hzs : ∀ k,sumN (List.replicate k (0 : Int)) = 0 := by
   intro k
   induction k with
   | zero => rfl
   | succ k ih => rw [List.replicate_succ,sumN,ih];rfl
  have e := sumN_append (List.replicate (zrL (norm.drop (i + 1))) 0) ((norm.drop (i + 1)).drop (zrL (norm.drop (i + 1))))
  rw [← hs,hzs,List.drop_drop] at e
  simp only [sumN,show stN 0 = 0 from rfl] at h2
  omega

set_option maxHeartbeats 2000000 in
theorem dnumber_any (Q base v m : Nat) (L : List Bool) (w : World) (h : WR w base Q L) (hv : v < m) (hm : m ≤ 514) (hl : L.length ≤ 7000000) :
  Calls Tryz.prog 147 #[.pointer (some ⟨Q,0,none⟩),.int .i64 (v : Int),.int .i64 (m : Int)] w fun e w' => e = .returned (.tuple #[]) ∧ WR w' base Q (L ++ numB m v) ∧ KQB Q base w w' := by
 have h1 := log2_le (m := m) (by omega)
 have h2 := log2_ltD (m := m) (by omega)
 have h9 := log2_small (m := m) (by omega) hm
 have HC := Lib.hid (cut_any m w (by omega) (by omega))
 have HNB : Hid (numB m v = if v < 2 ^ (m.log2 + 1) - m then bitsN v m.log2 else bitsN ((v + (2 ^ (m.log2 + 1) - m)) / 2) m.log2 ++ bitsN ((v + (2 ^ (m.log2 + 1) - m)) % 2) 1) := rfl
 obtain ⟨NB,hNB⟩ : ∃ N,numB m v = N := ⟨_,rfl⟩
 obtain ⟨lg,hlg⟩ : ∃ l,m.log2 = l := ⟨_,rfl⟩
 rw [hlg] at h1 h2 h9 HC HNB
 rw [hNB] at HNB ⊢
 rw [Nat.pow_succ,Nat.mul_comm] at h2 HNB
 obtain ⟨U,hU⟩ : ∃ U,2 * 2 ^ lg - m = U := ⟨_,rfl⟩
 rw [hU] at HC HNB
 have hp9 : 2 ^ lg ≤ 2 ^ 9 := Nat.pow_le_pow_right (by decide) h9
 rw [show (2 : Nat) ^ 9 = 512 by decide] at hp9
 have hUl : U ≤ 2 ^ lg := by omega
 have hvU : (v + U) / 2 < 2 ^ lg := by omega
 have hv5 : v ≤ 514 := by omega
 have hU5 : U ≤ 512 := by omega
 by_cases hlt : v < U
 ·have hnb := HNB.out
  rw [if_pos hlt] at hnb
  have HP := Lib.hid (fun q => put_any Q base v lg L (w.drewN q) (h.keeps0 ((Keeps.refl w []).drewN q)) (by omega) (by omega) (by omega))
  have HN := Lib.hid hnb
  have hltI : (v : Int) < (U : Int) := by omega
  obtain ⟨V,hV⟩ : ∃ V : Int,(v : Int) = V := ⟨_,rfl⟩
  rw [hV] at HP hltI ⊢
  have hwV : IntKind.u64.wrap V = V := by simp [IntKind.wrap,IntKind.signed,IntKind.bits];omega
  clear h h1 h2 hv hm hlg hNB hU hnb hV hvU hUl hp9 HNB hlt
  go_enter Tryz.func147,Tryz.ntmps147
  go_wp2_with (first
   | (go_at_call 181;(refine HC.out.mono ?_;rintro e w1 ⟨rfl,q,rfl⟩))
   | (go_at_call 146;(refine (HP.out q).mono ?_;rintro e w2 ⟨rfl,wr2,k2⟩;have WR2 := Lib.hid wr2;have K2 := Lib.hid k2;clear wr2 k2)))
  refine bodyPost_ret (v := .tuple #[]) (by simp only [results,Tryz.results147];go_simp) rfl ?_
  exact ⟨rfl,by rw [HN.out];exact WR2.out,(KQB.of ((Keeps.refl w []).drewN q) (by simp)).trans K2.out⟩
 ·have hnb := HNB.out
  rw [if_neg hlt] at hnb
  have HP := Lib.hid (fun q => put_any Q base ((v + U) / 2) lg L (w.drewN q) (h.keeps0 ((Keeps.refl w []).drewN q)) hvU (by omega) (by omega))
  have HP2 := Lib.hid (fun W (wr : WR W base Q (L ++ bitsN ((v + U) / 2) lg)) => put_any Q base ((v + U) % 2) 1 _ W wr (by omega) (by decide) (by rw [List.length_append,bitsN_len];omega))
  have HN := Lib.hid hnb
  have hltI : decide ((v : Int) < (U : Int)) = false := decide_eq_false (by omega)
  have hltN : decide (v < U) = false := decide_eq_false hlt
  obtain ⟨S,hS⟩ : ∃ S : Int,(v : Int) + (U : Int) = S := ⟨_,rfl⟩
  obtain ⟨X,hX⟩ : ∃ X : Int,(((v + U) / 2 : Nat) : Int) = X := ⟨_,rfl⟩
  obtain ⟨Y,hY⟩ : ∃ X : Int,(((v + U) % 2 : Nat) : Int) = X := ⟨_,rfl⟩
  have hSX : S / 2 = X := by omega
  have hSY : bits .and .u64 S 1 = Y := by
   rw [← hS,← hY,show ((v : Int) + (U : Int)) = ((v + U : Nat) : Int) by omega,show (1 : Int) = ((1 : Nat) : Int) from rfl,bits_and_u64_nat _ _ (by omega) (by omega),Nat.and_one_is_mod]
  have hw1 : wrap64 S = S := IntWalk.wrap64_in _ ⟨by omega,by omega⟩
  have hw2 : IntKind.u64.wrap S = S := by simp [IntKind.wrap,IntKind.signed,IntKind.bits];omega
  have hw3 : IntKind.u64.wrap X = X := by simp [IntKind.wrap,IntKind.signed,IntKind.bits];omega
  rw [hX] at HP
  rw [hY] at HP2
  clear h h1 h2 hv hm hlg hNB hU hnb hX hY hvU hUl hp9 HNB hlt
  go_enter Tryz.func147,Tryz.ntmps147
  go_wp2_with (first
   | (go_at_call 181;(refine HC.out.mono ?_;rintro e w1 ⟨rfl,q,rfl⟩))
   | (go_at_call 146;(refine (HP.out q).mono ?_;rintro e w2 ⟨rfl,wr2,k2⟩;have HP3 := Lib.hid (HP2.out _ wr2);have K2 := Lib.hid k2;clear wr2 k2 HP))
   | (go_at_call 146;(refine HP3.out.mono ?_;rintro e w3 ⟨rfl,wr3,k3⟩;have WR3 := Lib.hid wr3;have K3 := Lib.hid k3;clear wr3 k3)))
  go_end0
  refine ⟨rfl,?_,((KQB.of ((Keeps.refl w []).drewN q) (by simp)).trans K2.out).trans K3.out⟩
  rw [HN.out,← List.append_assoc]
  exact WR3.out

theorem WR.lower {w : World} {base base' Q : Nat} {L : List Bool} (h : WR w base Q L) (hb : base' ≤ base) : WR w base' Q L := by
 obtain ⟨n,hn,h⟩ := h
 obtain ⟨a,c,N,BL,v,hbk,own,hN,hv,hB,hL⟩ := h.form
 exact ⟨n,hn,⟨⟨a,c,N,BL,v,hbk,own_base own hb,hN,hv,hB,hL⟩,Nat.le_trans hb h.base,h.small,h.len⟩⟩
theorem WR.cast {w : World} {base Q : Nat} {L L' : List Bool} (h : WR w base Q L) (e : L = L') : WR w base Q L' := e ▸ h

def ZrSt (Z : Nat) (T : List Bool) (k : Int) (Lw : List Bool) : Prop := (k < 0 ∧ -3 ≤ k ∧ Lw = T) ∨ (∃ q : Nat,k = (q : Int) ∧ q ≤ Z ∧ Lw ++ zerosE q q = T)
theorem zerosE_step {q : Nat} (h : 3 ≤ q) : ∀ f,q ≤ 3 * f + 2 → zerosE f q = bitsN 3 2 ++ zerosE (f - 1) (q - 3)
 | 0,hf => by omega
 | f + 1,hf => by rw [zerosE,if_pos h];rfl
theorem zerosE_last {q : Nat} (h : q < 3) : ∀ f,zerosE f q = bitsN q 2
 | 0 => rfl
 | f + 1 => by rw [zerosE,if_neg (by omega)]
theorem zerosE_fuel : ∀ {f f' q : Nat},q ≤ 3 * f + 2 → q ≤ 3 * f' + 2 → zerosE f q = zerosE f' q
 | 0,f',q,h,_ => by rw [zerosE_last (by omega),zerosE_last (by omega)]
 | f + 1,0,q,_,h => by rw [zerosE_last (by omega),zerosE_last (by omega)]
 | f + 1,f' + 1,q,h1,h2 => by
  by_cases h3 : 3 ≤ q
  ·rw [zerosE,zerosE,if_pos h3,if_pos h3,zerosE_fuel (f := f) (f' := f') (by omega) (by omega)]
  ·rw [zerosE_last (by omega),zerosE_last (by omega)]
theorem zr_step {Z q : Nat} {T Lw : List Bool} (h : q ≤ Z) (hT : Lw ++ zerosE q q = T) : ZrSt Z T ((q : Int) - 3) (Lw ++ bitsN (min q 3) 2) := by
 by_cases h3 : 3 ≤ q
 ·refine .inr ⟨q - 3,by omega,by omega,?_⟩
  rw [← hT,zerosE_step h3 q (by omega),Nat.min_eq_right h3,List.append_assoc,zerosE_fuel (f := q - 3) (f' := q - 1) (by omega) (by omega)]
 ·refine .inl ⟨by omega,by omega,?_⟩
  rw [← hT,zerosE_last (by omega),Nat.min_eq_left (by omega)]

set_option maxHeartbeats 8000000 in
theorem dput_ok (G : Nat) (nv : Value) (norm : List Int) (w : World) (hv : RdI .i64 w nv norm) (hok' : okN (G : Int) norm 256 9 = true) (hg1 : 1 ≤ G) (ht : TblOk G norm) (hlast : norm.getD (norm.length - 1) 0 ≠ 0) (hb : ∀ x ∈ norm,-9223372036854775808 ≤ x ∧ x ≤ 9223372036854775807) :
  Calls Tryz.prog 111 #[.agg #[.int .i64 (G : Int),nv]] w fun e w' => ∃ Q,e = .returned (.pointer (some ⟨Q,0,none⟩)) ∧ w.heap.size ≤ Q ∧ WR w' w.heap.size Q (descL G norm) ∧ Keeps w w' [] := by
 obtain ⟨A0,n,cp0,rfl,hnl,-⟩ := hv.form
 have k0 := (Keeps.refl w []).alloc (.cells #[.int .i64 (G : Int),.slice A0 n cp0] 27)
 have b0 := Blk.new w #[.int .i64 (G : Int),.slice A0 n cp0] 27
 have hlen := ht.len
 have hn256 : n ≤ 256 := by omega
 have hg9 := ht.g9
 have HC := Lib.hid (ncheck_any (G : Int) 256 9 _ norm _ (hv.keeps k0) (by omega) hb (by decide) (by decide))
 rw [hok'] at HC
 simp only [if_true] at HC
 have HV := Lib.hid hv
 have HLOW := Lib.hid ht.low
 have HLA := Lib.hid hlast
 have HNL := Lib.hid hnl
 obtain ⟨hS1,hS2⟩ := ht.size
 have hsum := ht.sum
 have hbits : (descL G norm).length ≤ 4000 := by
  have h1 := normsE_len (f := norm.length) (left := 2 ^ G) (l := norm) hS2
  unfold descL
  rw [List.length_append,bitsN_len]
  omega
 have HST : Hid (PutSt norm (descL G norm) 0 (2 ^ G) 0 (bitsN (G - 1) 4)) := Lib.hid ⟨rfl,by simpa using hsum,by omega⟩
 obtain ⟨T,hT⟩ : ∃ T,descL G norm = T := ⟨_,rfl⟩
 rw [hT] at HST hbits ⊢
 obtain ⟨S,hS⟩ : ∃ S,2 ^ G = S := ⟨_,rfl⟩
 rw [hS] at HST hS1 hS2
 have HPW : Hid (wrap64 (2 ^ G) = (S : Int)) := Lib.hid (by
  have h1 : ((2 : Int) ^ G) = ((2 ^ G : Nat) : Int) := by simp
  rw [h1,hS]
  exact IntWalk.wrap64_in _ ⟨by omega,by omega⟩)
 obtain ⟨G1,hG1⟩ : ∃ D : Int,(((G - 1 : Nat) : Int)) = D := ⟨_,rfl⟩
 have hG2 : (G : Int) - 1 = G1 := by omega
 have hwG : wrap64 G1 = G1 := IntWalk.wrap64_in _ ⟨by omega,by omega⟩
 have hwG2 : IntKind.u64.wrap G1 = G1 := by simp [IntKind.wrap,IntKind.signed,IntKind.bits];omega
 have hG0 : ((G : Int) == 0) = false := by simp;omega
 have hG0n : (G == 0) = false := by simp;omega
 have hbw := b0.lt
 have HP0 := Lib.hid (fun W Q base (wr : WR W base Q []) => put_any Q base (G - 1) 4 [] W wr (by have : (2 : Nat) ^ 4 = 16 := (by decide);omega) (by decide) (by simp))
 simp only [List.nil_append] at HP0
 rw [hG1] at HP0
 have c0 := b0.cell 0
 have c1 := b0.cell 1
 simp at c0 c1
 clear hv hok' ht hlast hb hnl hT hsum hS hG1 k0
 go_enter Tryz.func111,Tryz.ntmps111
 go_wp2_with fail
 refine wp_scope_straight ?_
 go_wp2_with (first
  | (go_at_call 73;(refine HC.out.mono ?_;rintro e w1 ⟨rfl,k1⟩;have b1 := b0.keeps k1 (by simp);have kk1 : Keeps w w1 [] := ((Keeps.refl w []).alloc _).then k1;clear c0 c1;have c0 := b1.cell 0;have c1 := b1.cell 1;simp at c0 c1;have hw1 := b1.lt))
  | (go_at_call 146;(refine (HP0.out _ _ (w1.heap.size + 1) (WR.new (Blk.new w1 _ _) (by simp))).mono ?_;rintro e w2 ⟨rfl,wr2,k2⟩;have b2 := k2.blk (b1.alloc _) (by omega) (by omega);have kk2 := k2.low (kk1.alloc _) (by omega) (by omega);clear c0 c1;have c0 := b2.cell 0;have c1 := b2.cell 1;simp at c0 c1;have hs2 := k2.size;have HR0 := Lib.hid (show _ ∧ _ ∧ _ from ⟨wr2,b2,kk2⟩);clear wr2 k2 b2 kk2)))
 obtain ⟨Q,hQ⟩ : ∃ Q,w1.heap.size = Q := ⟨_,rfl⟩
 rw [hQ] at HR0 hw1 ⊢
 have hwQ : w.heap.size ≤ Q := by omega
 clear b0 b1 kk1 k1 hs2 hQ HP0 HC
 apply wp_label
 go_wp2_with fail
 clear c0 c1
 go_loopw [4,5,31] (fun s4 s5 s31 wr => ∃ (i left run : Nat) (Lw : List Bool),s31 = .int .i64 (i : Int) ∧ i ≤ n ∧ s4 = .int .i64 (left : Int) ∧ s5 = .int .i64 (run : Int) ∧ Hid (PutSt norm T i left run Lw) ∧ WR wr (Q + 1) Q Lw ∧ Blk wr w.heap.size #[.int .i64 (G : Int),.slice A0 n cp0] 27 ∧ Keeps w wr [] ∧ left ≤ 512 ∧ run ≤ n) (fun _ _ s31 _ => n - (intOf s31).toNat)
 case atStart =>
  obtain ⟨x1,x2,x3⟩ := HR0.out
  exact ⟨0,S,0,_,rfl,Nat.zero_le _,by rw [HPW.out],rfl,HST,x1,x2,x3,hS2,Nat.zero_le _⟩
 case round =>
  clear HR0 HST
  obtain ⟨i,left,run,Lw,rfl,hin,rfl,rfl,hst,wr0,bT,kk,hl5,hrn⟩ := hrel
  obtain ⟨wo,hwo⟩ : ∃ x,x = wr := ⟨_,rfl⟩
  subst hwo
  have HB := Lib.hid bT
  have WR0 := Lib.hid wr0
  have KK := Lib.hid kk
  have hbTl := bT.lt
  have hQl := wr0.lt
  have hLw : Lw.length ≤ 4000 := by
   have h1 := hst.out.1
   have h2 := congrArg List.length h1
   rw [List.length_append] at h2
   omega
  by_cases hlt : i < n
  ·have hiI : (i : Int) < (n : Int) := by omega
   obtain ⟨x,hx⟩ : ∃ x,norm[i]? = some x := ⟨_,List.getElem?_eq_getElem (by have := HNL.out;omega)⟩
   obtain ⟨bb,o,rfl,hbb,hcx⟩ := HV.out.at hx
   have hcx' := (kk.cell (p := ⟨bb,o + i,none⟩) hbb (by simp)).trans hcx
   have hcap := HV.out.cap
   by_cases hr : 0 < run
   ·obtain ⟨r1,rfl⟩ : ∃ r,run = r + 1 := ⟨run - 1,by omega⟩
    have hrI : (0 : Int) < ((r1 + 1 : Nat) : Int) := by omega
    obtain ⟨R1,hR1⟩ : ∃ R : Int,((r1 + 1 : Nat) : Int) = R := ⟨_,rfl⟩
    rw [hR1] at hrI ⊢
    obtain ⟨R2,hR2e⟩ : ∃ R : Int,(r1 : Int) = R := ⟨_,rfl⟩
    have hR2 : R1 - 1 = R2 := by omega
    have hwR : wrap64 R2 = R2 := IntWalk.wrap64_in _ ⟨by omega,by omega⟩
    have HR2 := Lib.hid hR2e
    have hr1n : r1 ≤ n := by omega
    have hi1 : i + 1 ≤ n := by omega
    have hms : n - (i + 1) < n - i := by omega
    clear bT wr0 kk hcx hx hR1 hr hR2e
    go_wp2_with fail
    go_roundw
    case rel => exact ⟨i + 1,left,r1,Lw,by go_num,hi1,rfl,by rw [HR2.out,hwR],put_pass hst.out,WR0.out,HB.out,KK.out,hl5,hr1n⟩
    case measure => clear hwR;simp [intOf];omega
   ·obtain rfl : run = 0 := by omega
    have hr0 : decide ((0 : Int) < ((0 : Nat) : Int)) = false := by decide
    have hroom := put_room hst.out hx HLOW.out
    have hxl := HLOW.out x (List.mem_of_getElem? hx)
    have hxs : x ≤ stN x := by unfold stN;split <;> omega
    have hmx := stN_max hxl
    have hsn := stN_nonneg hxl
    obtain ⟨SX,hSX⟩ : ∃ D,stN x = D := ⟨_,rfl⟩
    rw [hSX] at hroom hxs hmx hsn
    have HSX := Lib.hid hSX
    obtain ⟨N,hN⟩ : ∃ N : Int,-x = N := ⟨_,rfl⟩
    rw [hN] at hmx
    have hwN : wrap64 N = N := IntWalk.wrap64_in _ ⟨by omega,by omega⟩
    have HNUM := Lib.hid (dnumber_any Q (Q + 1) (x + 1).toNat (left + 2) Lw wo wr0 (by omega) (by omega) (by omega))
    obtain ⟨X1,hX1⟩ : ∃ D : Int,x + 1 = D := ⟨_,rfl⟩
    obtain ⟨L2,hL2⟩ : ∃ D : Int,(left : Int) + 2 = D := ⟨_,rfl⟩
    rw [show (((x + 1).toNat : Nat) : Int) = X1 by omega,show ((left + 2 : Nat) : Int) = L2 by omega] at HNUM
    have hwX : wrap64 X1 = X1 := IntWalk.wrap64_in _ ⟨by omega,by omega⟩
    have hwL : wrap64 L2 = L2 := IntWalk.wrap64_in _ ⟨by omega,by omega⟩
    obtain ⟨L3,hL3⟩ : ∃ D : Int,(left : Int) - SX = D := ⟨_,rfl⟩
    have hwL3 : wrap64 L3 = L3 := IntWalk.wrap64_in _ ⟨by omega,by omega⟩
    have HL3 := Lib.hid (show L3 = ((left - SX.toNat : Nat) : Int) by omega)
    have c0 := bT.cell 0
    have c1 := bT.cell 1
    simp at c0 c1
    by_cases hx0 : x = 0
    ·have hx0b : (x != 0) = false := by simp [hx0]
     have HX0 := Lib.hid hx0
     have hxz : norm[i]? = some 0 := by rw [hx,hx0]
     have hZ := zr_room HLA.out hxz
     have HPZ0 := Lib.hid (put_zero hst.out hxz)
     have HAT := Lib.hid (fun r (h : r < zrL (norm.drop (i + 1))) => zr_at h)
     have HEND := Lib.hid (zr_end (l := norm.drop (i + 1)) (by rw [List.length_drop];omega))
     obtain ⟨Z,hZe⟩ : ∃ Z,zrL (norm.drop (i + 1)) = Z := ⟨_,rfl⟩
     rw [hZe] at hZ HPZ0 HAT HEND
     have hZn : i + 1 + Z < n := by have := HNL.out;omega
     have hSX0 : SX = 0 := by rw [← HSX.out,HX0.out];rfl
     have HNBX := Lib.hid (show numB (left + 2) (x + 1).toNat = numB (left + 2) 1 by rw [HX0.out];rfl)
     have HLE : Hid (L3 = (left : Int)) := Lib.hid (by omega)
     clear bT wr0 kk hcx hx hx0 hxz hZ hZe hSX hroom hxl hxs hSX0
     go_wp2_with (go_at_call 147;(refine HNUM.out.mono ?_;rintro e w3 ⟨rfl,wr3,k3⟩;have WR3 := Lib.hid wr3;have K3 := Lib.hid k3;have b3 := k3.blk HB.out (by omega) (by omega);have hs3 := k3.size;have B3 := Lib.hid b3;clear c0 c1;have c0 := b3.cell 0;have c1 := b3.cell 1;simp at c0 c1;clear wr3 k3 b3))
     have hnl3 := (numB_len (m := left + 2) (v := (x + 1).toNat))
     have hnl9 := log2_small (m := left + 2) (by omega) (by omega)
     have kk3 := K3.out.low KK.out (by omega) (by omega)
     have KK3 := Lib.hid kk3
     clear kk3
     go_loopw [5] (fun s5 wr => wr = w3 ∧ ∃ r : Nat,r ≤ Z ∧ s5 = .int .i64 (r : Int)) (fun s5 _ => Z - (intOf s5).toNat)
     case atStart => exact ⟨rfl,0,Nat.zero_le _,rfl⟩
     case round =>
      obtain ⟨rfl,r,hrZ,rfl⟩ := hrel
      have hir : (i : Int) + 1 + (r : Int) < (n : Int) := by omega
      by_cases hrz : r < Z
      ·have h1 := HAT.out r hrz
       rw [List.getElem?_drop] at h1
       obtain ⟨bb',o',he,hbb',hcr⟩ := HV.out.at h1
       cases he
       have hcr' := (KK3.out.cell (p := ⟨bb,o + (i + 1 + r),none⟩) hbb' (by simp)).trans hcr
       clear h1 hcr
       go_wp2_with fail
       go_roundw
       case rel => exact ⟨trivial,r + 1,by omega,by go_num⟩
       case measure => simp [intOf];omega
      ·obtain rfl : r = Z := by omega
       obtain ⟨y,hy0,h1⟩ := HEND.out
       rw [List.getElem?_drop] at h1
       obtain ⟨bb',o',he,hbb',hcr⟩ := HV.out.at h1
       cases he
       have hcr' := (KK3.out.cell (p := ⟨bb,o + (i + 1 + r),none⟩) hbb' (by simp)).trans hcr
       have hyb : (y == 0) = false := by simpa using hy0
       clear h1 hcr hy0 hrz
       go_wp2_with fail
       clear hcr' hyb
       obtain ⟨wz,hwz⟩ : ∃ x,x = wr := ⟨_,rfl⟩
       subst hwz
       go_loopw [8] (fun s8 wr => ∃ (k : Int) (Lk : List Bool),s8 = .int .i64 k ∧ Hid (ZrSt r (Lw ++ numB (left + 2) (x + 1).toNat ++ zerosE r r) k Lk) ∧ -3 ≤ k ∧ k ≤ 256 ∧ WR wr (Q + 1) Q Lk ∧ KQB Q (Q + 1) wz wr) (fun s8 _ => (intOf s8 + 3).toNat)
       case atStart => exact ⟨(r : Int),_,rfl,.inr ⟨r,rfl,Nat.le_refl _,rfl⟩,by omega,by omega,WR3.out,.refl _ _ _⟩
       case round =>
        obtain ⟨k,Lk,rfl,hzr,hk1,hk2,wrk,kq⟩ := hrel
        have WRK := Lib.hid wrk
        have KQ := Lib.hid kq
        by_cases hk0 : 0 ≤ k
        ·obtain ⟨q,rfl⟩ := Int.eq_ofNat_of_zero_le hk0
         have hzs : q ≤ r ∧ Lk ++ zerosE q q = Lw ++ numB (left + 2) (x + 1).toNat ++ zerosE r r := by
          rcases hzr.out with ⟨h,-⟩ | ⟨q',hq,h2,h3⟩
          ·omega
          ·obtain rfl : q' = q := by omega
           exact ⟨h2,h3⟩
         have hLk : Lk.length ≤ 6000 := by
          have h2 := congrArg List.length hzs.2
          have h3 := zerosE_len r r
          simp only [List.length_append] at h2
          omega
         have HZS := Lib.hid (zr_step (Z := r) hzs.1 hzs.2)
         have hq3 : min q 3 < 4 := by omega
         have HPT := Lib.hid (put_any Q (Q + 1) (min q 3) 2 Lk wr wrk (by have : (2 : Nat) ^ 2 = 4 := (by decide);omega) (by decide) (by omega))
         obtain ⟨MQ,hMQ⟩ : ∃ D : Int,((min q 3 : Nat) : Int) = D := ⟨_,rfl⟩
         have hmin : min (q : Int) 3 = MQ := by omega
         rw [hMQ] at HPT
         have hwM : IntKind.u64.wrap MQ = MQ := by simp [IntKind.wrap,IntKind.signed,IntKind.bits];omega
         obtain ⟨q3,hq3e⟩ : ∃ D : Int,(q : Int) - 3 = D := ⟨_,rfl⟩
         have hwq3 : wrap64 q3 = q3 := IntWalk.wrap64_in _ ⟨by omega,by omega⟩
         rw [hq3e] at HZS
         clear hzs hzr wrk kq hMQ hq3 hwL3 hwX hwL hwN hmx
         go_wp2_with (go_at_call 146;(refine HPT.out.mono ?_;rintro e w5 ⟨rfl,wr5,k5⟩;have WR5 := Lib.hid wr5;have K5 := Lib.hid k5;clear wr5 k5))
         go_roundw
         case rel => exact ⟨q3,_,rfl,HZS,by omega,by omega,WR5.out,KQ.out.trans K5.out⟩
         case measure => simp [intOf];omega
        ·have hk0' : decide (0 ≤ k) = false := decide_eq_false hk0
         have HLK : Hid (Lk = Lw ++ numB (left + 2) (x + 1).toNat ++ zerosE r r) := Lib.hid (by
          rcases hzr.out with ⟨h,-,h3⟩ | ⟨q',hq,-⟩
          ·exact h3
          ·omega)
         clear hzr wrk kq
         go_wp2_with fail
         go_roundw
         case rel =>
          refine ⟨i + 1,left,r,Lk,by go_num,by omega,by rw [hwL3,HLE.out],rfl,?_,WRK.out,KQ.out.blk B3.out (by omega) (by omega),KQ.out.low KK3.out (by omega) (by omega),hl5,by omega⟩
          rw [HLK.out,HNBX.out]
          exact HPZ0.out
         case measure => simp [intOf];omega
    ·have hx0b : (x != 0) = true := by simpa using hx0
     have HPO := Lib.hid (put_one hst.out hx hx0 HLOW.out)
     rw [hSX] at HPO
     clear bT wr0 kk hcx hx hx0 hSX hroom hxl hxs
     go_wp2_with (go_at_call 147;(refine HNUM.out.mono ?_;rintro e w3 ⟨rfl,wr3,k3⟩;have WR3 := Lib.hid wr3;have K3 := Lib.hid k3;have b3 := k3.blk HB.out (by omega) (by omega);have hs3 := k3.size;have B3 := Lib.hid b3;clear c0 c1;have c0 := b3.cell 0;have c1 := b3.cell 1;simp at c0 c1;clear wr3 k3 b3))
     have kk3 := K3.out.low KK.out (by omega) (by omega)
     go_roundw
     case rel => exact ⟨i + 1,left - SX.toNat,0,_,by go_num,by omega,by rw [hwL3,HL3.out],rfl,HPO,WR3.out,B3.out,kk3,by omega,by omega⟩
     case measure => simp [intOf];omega
  ·obtain rfl : i = n := by omega
   have hii : decide ((i : Int) < (i : Int)) = false := by simp
   have HT : Hid (Lw = T) := Lib.hid (by
    have h1 := hst.out.1
    have h3 := hst.out.2.2
    have hn := HNL.out
    rw [List.drop_of_length_le (by omega)] at h1
    have e : normsE norm.length left [] = [] := by cases norm.length <;> rfl
    rw [e,List.append_nil] at h1
    exact h1)
   clear bT wr0 kk hst
   go_wp2_with fail
   simp only [Exit.noGoto]
   go_ret
   exact ⟨Q,rfl,hwQ,(WR0.out.lower (by omega)).cast HT.out,KK.out⟩

set_option maxHeartbeats 4000000 in
theorem dencode_ok (G : Nat) (nv : Value) (norm : List Int) (w : World) (hv : RdI .i64 w nv norm) (hok' : okN (G : Int) norm 256 9 = true) (hg1 : 1 ≤ G) (ht : TblOk G norm) (hlast : norm.getD (norm.length - 1) 0 ≠ 0) (hb : ∀ x ∈ norm,-9223372036854775808 ≤ x ∧ x ≤ 9223372036854775807) :
  Calls Tryz.prog 66 #[.agg #[.int .i64 (G : Int),nv]] w fun e w' => ∃ v',e = .returned (.tuple #[v',.int .i64 0]) ∧ OwnB w' w.heap.size v' (descE G norm) ∧ Keeps w w' [] := by
 obtain ⟨A0,n,cp0,rfl,hnl,-⟩ := hv.form
 have k0 := (Keeps.refl w []).alloc (.cells #[.int .i64 (G : Int),.slice A0 n cp0] 27)
 have b0 := Blk.new w #[.int .i64 (G : Int),.slice A0 n cp0] 27
 have HP := Lib.hid (dput_ok G _ norm _ (hv.keeps k0) hok' hg1 ht hlast hb)
 have c0 := b0.cell 0
 have c1 := b0.cell 1
 simp at c0 c1
 clear hv hok' ht hlast hb hnl
 go_enter Tryz.func66,Tryz.ntmps66
 go_wp2_with (first
  | (go_at_call 111;(refine HP.out.mono ?_;rintro e w1 ⟨Q,rfl,hQ,wr,k1⟩;have WRH := Lib.hid wr;have K1 := Lib.hid (k0.then k1);clear wr k1))
  | (go_at_call 112;(refine (wbytes_any _ _ _ _ WRH.out).mono ?_;rintro e w2 ⟨v2,rfl,own2,k2⟩;have OW := Lib.hid own2;have K2 := Lib.hid k2;clear own2 k2)))
 go_ret2
 exact ⟨_,rfl,own_base OW.out K1.out.size,K1.out.then K2.out⟩


end Go.Proofs.YtcmagccfagijlaaGreat
