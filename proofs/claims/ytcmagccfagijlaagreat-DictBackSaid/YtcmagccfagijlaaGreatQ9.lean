/-
  Walks over package desc: a reader of bits that keeps the first error: must, take, cut, number.
  Walks over package desc: noughts.
-/
import Derived.Test.YtcmagccfagijlaaGreatQ2
import Derived.Test.YtcmagccfagijlaaGreatQ4
import Derived.Test.YtcmagccfagijlaaGreatQ8
namespace Go.Proofs.YtcmagccfagijlaaGreat
set_option linter.unusedVariables false
set_option linter.unusedSimpArgs false
set_option linter.unusedSectionVars false
set_option maxRecDepth 100000
section
open Go.RowKit

theorem BitR.keepsC {w w' : World} {R g : Nat} {TF : TypeId} {B : List Int} {a b : Nat} {S : List Nat} (h : BitR w R g TF B a b) (k : Keeps w w' S) (h1 : R ∉ S) (h2 : 0 < B.length → g ∉ S) : BitR w' R g TF B a b := by
 obtain ⟨bs,c1,c2,c3⟩ := h.cells
 refine ⟨⟨bs,c1.keeps k h1,c2.keepsS k (fun ad n cp e h0 hm => ?_),c3⟩,h.ne,h.len,h.bytes,h.hab,h.hb⟩
 subst e
 have hl := c2.len
 exact h2 (by omega) (c3 _ _ _ rfl ▸ hm)
theorem BitR.lt {w : World} {R g : Nat} {TF : TypeId} {B : List Int} {a b : Nat} (h : BitR w R g TF B a b) : R < w.heap.size ∧ (0 < B.length → g < w.heap.size) := by
 obtain ⟨bs,c1,c2,c3⟩ := h.cells
 refine ⟨c1.lt,fun h0 => ?_⟩
 obtain ⟨A0,n,cp,rfl,hn,-⟩ := c2.form
 obtain ⟨b',o',e,hb,-⟩ := c2.addr (by omega)
 subst e
 rw [← c3 _ _ _ rfl]
 exact hb

structure DR (w : World) (Q R g : Nat) (B : List Int) (p : Nat) (e : Int) : Prop where
 blk : Blk w Q #[.pointer (some ⟨R,0,none⟩),.int .i64 e] 156
 rd : BitR w R g 195 B p (8 * B.length)
 qr : Q ≠ R
 qg : 0 < B.length → Q ≠ g
theorem DR.keeps {w w' : World} {Q R g p : Nat} {B : List Int} {e : Int} {S : List Nat} (h : DR w Q R g B p e) (k : Keeps w w' S) (h0 : Q ∉ S) (h1 : R ∉ S) (h2 : 0 < B.length → g ∉ S) : DR w' Q R g B p e :=
 ⟨h.blk.keeps k h0,h.rd.keepsC k h1 h2,h.qr,h.qg⟩
theorem DR.keep {w w' : World} {Q R g p : Nat} {B : List Int} {e : Int} (h : DR w Q R g B p e) (k : Keeps w w' []) : DR w' Q R g B p e := h.keeps k (by simp) (by simp) (by simp)
theorem DR.lt {w : World} {Q R g p : Nat} {B : List Int} {e : Int} (h : DR w Q R g B p e) : Q < w.heap.size ∧ R < w.heap.size ∧ (0 < B.length → g < w.heap.size) := ⟨h.blk.lt,h.rd.lt.1,h.rd.lt.2⟩
theorem DR.old {w w' : World} {Q R g p : Nat} {B : List Int} {e : Int} {S : List Nat} (h : DR w Q R g B p e) (k : Keeps w w' S) {N : Nat} (hQ : Q < N) (hR : R < N) (hg : 0 < B.length → g < N) (hS : ∀ x ∈ S,N ≤ x) : DR w' Q R g B p e :=
 h.keeps k (fun hm => by have := hS _ hm;omega) (fun hm => by have := hS _ hm;omega) (fun h0 hm => by have := hS _ hm;have := hg h0;omega)
theorem DR.err {w : World} {Q R g p : Nat} {B : List Int} {e : Int} (h : DR w Q R g B p e) (e' : Int) : DR (w.setCell ⟨Q,1,none⟩ (.int .i64 e')) Q R g B p e' :=
 ⟨by have := h.blk.set 1 (.int .i64 e');simpa using this,h.rd.keepsC (S := [Q]) ((Keeps.refl w [Q]).setCell (.inr (by simp)) _) (by have := h.qr;simp;omega) (fun h0 => by have := h.qg h0;simp;omega),h.qr,h.qg⟩

theorem must_true (Q R g p : Nat) (B : List Int) (e : Int) (w : World) (h : DR w Q R g B p 0) :
  Calls Tryz.prog 151 #[.pointer (some ⟨Q,0,none⟩),.bool true,.int .i64 e] w fun x w' => x = .returned (.bool true) ∧ w = w' := by
 have c0 := h.blk.cell 0
 have c1 := h.blk.cell 1
 simp at c0 c1
 clear h
 go_enter Tryz.func151,Tryz.ntmps151
 go_wp2_with fail
 go_ret
 exact ⟨rfl,rfl⟩

theorem must_bad (Q R g p : Nat) (B : List Int) (b : Bool) (e e' : Int) (he : e ≠ 0) (w : World) (h : DR w Q R g B p e) :
  Calls Tryz.prog 151 #[.pointer (some ⟨Q,0,none⟩),.bool b,.int .i64 e'] w fun x w' => x = .returned (.bool false) ∧ w = w' := by
 have c0 := h.blk.cell 0
 have c1 := h.blk.cell 1
 simp at c0 c1
 have hz : (e == 0) = false := by simpa using he
 clear h
 go_enter Tryz.func151,Tryz.ntmps151
 go_wp2_with fail
 go_ret
 exact ⟨rfl,rfl⟩

theorem must_no (Q R g p : Nat) (B : List Int) (e : Int) (he : e ≠ 0) (w : World) (h : DR w Q R g B p 0) :
  Calls Tryz.prog 151 #[.pointer (some ⟨Q,0,none⟩),.bool false,.int .i64 e] w fun x w' => x = .returned (.bool false) ∧ DR w' Q R g B p e ∧ Keeps w w' [Q] := by
 have HD := Lib.hid (h.err e)
 have c0 := h.blk.cell 0
 have c1 := h.blk.cell 1
 have f1 := h.blk.frozen 1
 simp at c0 c1
 have hz : (e == 0) = false := by simpa using he
 clear h
 go_enter Tryz.func151,Tryz.ntmps151
 go_wp2_with fail
 go_ret
 exact ⟨rfl,HD.out,(Keeps.refl w _).setCell (.inr (by simp)) _⟩

theorem mayE_in {n r : Nat} (h : n ≤ r) (h64 : n ≤ 64) : mayE (n : Int) r 3 = 0 := by
 unfold mayE
 rw [if_neg (by omega),if_neg (by omega)]
theorem mayE_out {n r : Nat} (h : r < n) (h64 : n ≤ 64) : mayE (n : Int) r 3 = 3 := by
 unfold mayE
 rw [if_neg (by omega),if_pos (by omega)]

set_option maxHeartbeats 2000000 in
theorem take_ok (Q R g p n : Nat) (B : List Int) (w : World) (h : DR w Q R g B p 0) (h0 : p + n ≤ 8 * B.length) (h62 : n ≤ 62) :
  Calls Tryz.prog 150 #[.pointer (some ⟨Q,0,none⟩),.int .i64 n] w fun x w' => x = .returned (.int .i64 (bitsAt B p n : Nat)) ∧ DR w' Q R g B (p + n) 0 ∧ Keeps w w' [R] := by
 have HT := Lib.hid (fwdTake_any R g B p (8 * B.length) (n : Int) w h.rd)
 rw [mayE_in (by omega) (by omega),Int.toNat_natCast] at HT
 simp only [if_true] at HT
 have HM := Lib.hid (fun w1 (k : DR w1 Q R g B (p + n) 0) => must_true Q R g (p + n) B 0 w1 k)
 have hb := bitsAt_lt B p n
 have h2 : (2 : Nat) ^ n ≤ 2 ^ 62 := Nat.pow_le_pow_right (by omega) h62
 have h3 : (2 : Nat) ^ 62 = 4611686018427387904 := by decide
 have c0 := h.blk.cell 0
 have c1 := h.blk.cell 1
 simp at c0 c1
 have HH := Lib.hid h
 generalize hV : bitsAt B p n = V at *
 have hV2 : V < 4611686018427387904 := by omega
 clear h hV hb h2 h3
 go_enter Tryz.func150,Tryz.ntmps150
 go_wp2_with fail
 refine HT.out.mono ?_
 rintro e w1 ⟨rfl,hr,k1⟩
 have hd : DR w1 Q R g B (p + n) 0 := ⟨HH.out.blk.keeps k1 (by have := HH.out.qr;simp;omega),hr,HH.out.qr,HH.out.qg⟩
 have HD := Lib.hid hd
 clear hr hd
 go_wp2_with (go_at_call 151;(refine (HM.out _ HD.out).mono ?_;rintro e w2 ⟨rfl,rfl⟩))
 go_ret
 exact ⟨rfl,HD.out,k1⟩

set_option maxHeartbeats 2000000 in
theorem take_no (Q R g p n : Nat) (B : List Int) (w : World) (h : DR w Q R g B p 0) (h0 : 8 * B.length < p + n) (h62 : n ≤ 62) :
  Calls Tryz.prog 150 #[.pointer (some ⟨Q,0,none⟩),.int .i64 n] w fun x w' => x = .returned (.int .i64 0) ∧ DR w' Q R g B p 3 ∧ Keeps w w' [Q] := by
 have HT := Lib.hid (fwdTake_any R g B p (8 * B.length) (n : Int) w h.rd)
 have hab := h.rd.hab
 rw [mayE_out (by omega) (by omega)] at HT
 simp only [show ¬ ((3 : Int) = 0) by decide,if_false] at HT
 have HM := Lib.hid (fun w1 (k : DR w1 Q R g B p 0) => must_no Q R g p B 3 (by decide) w1 k)
 have c0 := h.blk.cell 0
 have c1 := h.blk.cell 1
 simp at c0 c1
 have HH := Lib.hid h
 clear h hab
 go_enter Tryz.func150,Tryz.ntmps150
 go_wp2_with fail
 refine HT.out.mono ?_
 rintro e w1 ⟨rfl,q,rfl⟩
 have HD := Lib.hid (HH.out.keep ((Keeps.refl w []).drewN q))
 have K0 := Lib.hid ((Keeps.refl w [Q]).drewN q)
 go_wp2_with (go_at_call 151;(refine (HM.out _ HD.out).mono ?_;rintro e w2 ⟨rfl,hd2,k2⟩))
 go_ret
 exact ⟨rfl,hd2,K0.out.trans k2 (fun j hj _ => hj)⟩

theorem log2_cut {m : Nat} (h0 : 0 < m) (h : m ≤ 2000) : m.log2 ≤ 10 ∧ 2 ^ m.log2 ≤ m ∧ m < 2 * 2 ^ m.log2 := by
 have h1 := log2_le h0
 have h2 := log2_ltD h0
 rw [Nat.pow_succ] at h2
 refine ⟨?_,h1,by omega⟩
 by_cases h4 : m.log2 ≤ 10
 ·exact h4
 ·have h5 : (2 : Nat) ^ 11 ≤ 2 ^ m.log2 := Nat.pow_le_pow_right (by decide) (by omega)
  have h6 : (2 : Nat) ^ 11 = 2048 := by decide
  omega
set_option maxHeartbeats 2000000 in
theorem cut_any (m : Nat) (w : World) (h0 : 0 < m) (h : m ≤ 2000) :
  Calls Tryz.prog 181 #[.int .i64 m] w fun x w' => x = .returned (.tuple #[.int .i64 (m.log2 : Nat),.int .i64 ((2 * 2 ^ m.log2 - m : Nat) : Int)]) ∧ ∃ q,w' = w.drewN q := by
 obtain ⟨h1,h2,h3⟩ := log2_cut h0 h
 have HL := Lib.hid (Tryz.bits_Len (m : Int) w (by omega) (by omega))
 rw [Int.toNat_natCast,bitLen_log h0 (by omega)] at HL
 have hm : (m : Int) % 18446744073709551616 = m := by omega
 obtain ⟨b,hb⟩ : ∃ b,m.log2 = b := ⟨_,rfl⟩
 rw [hb] at HL h1 h2 h3 ⊢
 obtain ⟨Pw,hPw⟩ : ∃ x,2 ^ b = x := ⟨_,rfl⟩
 have hI : (2 : Int) ^ b = (Pw : Int) := by rw [← hPw];simp
 rw [hPw] at h2 h3 ⊢
 obtain ⟨T,hT⟩ : ∃ T,2 * Pw = T := ⟨_,rfl⟩
 obtain ⟨D,hD⟩ : ∃ D : Int,(T : Int) - (m : Int) = D := ⟨_,rfl⟩
 have h2T : (2 : Int) * 2 ^ b = (T : Int) := by rw [hI,← hT];omega
 have HW : Hid (wrap64 (wrap64 (2 * 2 ^ b) - (m : Int)) = D) := by
  show _ = _
  rw [h2T,IntWalk.wrap64_in (T : Int) ⟨by omega,by omega⟩,hD,IntWalk.wrap64_in D ⟨by omega,by omega⟩]
 rw [hT]
 have e : ((T - m : Nat) : Int) = D := by omega
 rw [e]
 clear h0 h h2 h3 hb hT e hD h2T hI hPw
 go_enter Tryz.func181,Tryz.ntmps181
 go_wp2_with fail
 refine HL.out.mono ?_
 rintro e w1 ⟨rfl,rfl⟩
 go_wp2_with fail
 go_quiet (fail)
 go_wp2_with fail
 go_ret2
 exact ⟨by rw [← HW.out];rfl,_,rfl⟩

def NumbEnd (w : World) (Q R g : Nat) (B : List Int) (Z : Except Int (Nat × List Bool)) (e : Ending) (w' : World) : Prop :=
 Keeps w w' [Q,R] ∧ match Z with
  | .ok (v,L1) => e = .returned (.int .i64 (v : Int)) ∧ ∃ p',L1 = (rowBits B).drop p' ∧ p' ≤ 8 * B.length ∧ DR w' Q R g B p' 0
  | .error n => (∃ x : Int,e = .returned (.int .i64 x)) ∧ n ≠ 0 ∧ ∃ p',DR w' Q R g B p' n
theorem numEnd_ok {w w' : World} {Q R g : Nat} {B : List Int} {v p' : Nat} {x : Int} (k : Keeps w w' [Q,R]) (hx : x = (v : Int)) (h : p' ≤ 8 * B.length) (hd : DR w' Q R g B p' 0) : NumbEnd w Q R g B (.ok (v,(rowBits B).drop p')) (.returned (.int .i64 x)) w' := by
 subst hx
 exact ⟨k,rfl,p',rfl,h,hd⟩
theorem numEnd_no {w w' : World} {Q R g : Nat} {B : List Int} {x n : Int} {p' : Nat} (k : Keeps w w' [Q,R]) (hn : n ≠ 0) (hd : DR w' Q R g B p' n) : NumbEnd w Q R g B (.error n) (.returned (.int .i64 x)) w' :=
 ⟨k,⟨x,rfl⟩,hn,p',hd⟩
theorem tk_drop {B : List Int} {p n : Nat} (h : p + n ≤ 8 * B.length) : tk ((rowBits B).drop p) n = .ok (bitsAt B p n,(rowBits B).drop (p + n)) := by
 rw [tk_ok (by rw [List.length_drop,rowBits_len];omega),List.drop_drop]
 rfl
theorem tk_short {B : List Int} {p n : Nat} (h : 8 * B.length < p + n) (hn : 0 < n) : tk ((rowBits B).drop p) n = .error 3 := by
 rw [tk_no (by rw [List.length_drop,rowBits_len];omega)]

abbrev takeV (Q : Nat) : Value := .func (.func 150) #[.pointer (some ⟨Q,0,none⟩)] #[]

set_option maxHeartbeats 4000000 in
theorem number_any1 (Q R g p m : Nat) (B : List Int) (w : World) (h : DR w Q R g B p 0) (h2 : 2 ≤ m) (hm : m ≤ 2000) :
  Calls Tryz.prog 152 #[.pointer (some ⟨Q,0,none⟩),.int .i64 m,takeV Q] w (NumbEnd w Q R g B (numP ((rowBits B).drop p) m)) := by
 obtain ⟨l1,l2,l3⟩ := log2_cut (m := m) (by omega) hm
 have HC := Lib.hid (cut_any m w (by omega) hm)
 have hl0 : 0 < m.log2 := by
  rcases Nat.eq_zero_or_pos m.log2 with h0 | h0
  ·rw [h0] at l3;simp at l3;omega
  ·exact h0
 obtain ⟨Z,hZ⟩ : ∃ Z,numP ((rowBits B).drop p) m = Z := ⟨_,rfl⟩
 have HZ := Lib.hid hZ
 rw [hZ]
 clear hZ
 unfold numP at HZ
 rw [Nat.pow_succ,Nat.mul_comm _ 2] at HZ
 obtain ⟨Pw,hPw⟩ : ∃ x,2 ^ m.log2 = x := ⟨_,rfl⟩
 rw [hPw] at l2 l3 HC HZ
 obtain ⟨b,hb⟩ : ∃ b,m.log2 = b := ⟨_,rfl⟩
 rw [hb] at HC HZ l1 hl0
 have hPb : Pw = 2 ^ b := by rw [← hPw,hb]
 obtain ⟨u,hu⟩ : ∃ u,2 * Pw - m = u := ⟨_,rfl⟩
 rw [hu] at HC HZ
 have hu0 : 0 < u := by omega
 have hu1 : u ≤ 2000 := by omega
 by_cases hA : p + b ≤ 8 * B.length
 ·have HT := Lib.hid (fun w1 (d : DR w1 Q R g B p 0) => take_ok Q R g p b B w1 d hA (by omega))
  rw [tk_drop hA] at HZ
  simp only at HZ
  have hvl := bitsAt_lt B p b
  rw [← hPb] at hvl
  obtain ⟨t,ht⟩ : ∃ t,bitsAt B p b = t := ⟨_,rfl⟩
  rw [ht] at HT HZ hvl
  have ht2 : t ≤ 2000 := by omega
  by_cases hlt : t < u
  ·rw [if_pos hlt] at HZ
   have hlt' : (t : Int) < (u : Int) := by omega
   have HH := Lib.hid h
   have HA := Lib.hid hA
   clear h l1 l2 l3 hl0 hPw hb hPb hu hu0 hA hvl ht hlt
   go_enter Tryz.func152,Tryz.ntmps152
   go_wp2_with (go_at_call 181;(refine HC.out.mono ?_;rintro e w1 ⟨rfl,q,rfl⟩))
   have k0 := (Keeps.refl w []).drewN q
   refine (HT.out _ (HH.out.keep k0)).mono ?_
   rintro e w2 ⟨rfl,d2,k2⟩
   go_wp2_with fail
   go_ret
   rw [← HZ.out]
   exact numEnd_ok (((k0.mono (S' := [Q,R]) (fun _ h => by cases h)).trans k2 (fun j hj _ => by have := List.mem_singleton.1 hj;simp [this]))) rfl HA.out d2
  ·rw [if_neg hlt] at HZ
   have hlt' : decide ((t : Int) < (u : Int)) = false := decide_eq_false (by omega)
   have hlt2 : decide (t < u) = false := decide_eq_false (by omega)
   have hw1 : wrap64 (2 * (t : Int)) = 2 * (t : Int) := IntWalk.wrap64_in _ ⟨by omega,by omega⟩
   by_cases hB : p + b + 1 ≤ 8 * B.length
   ·have HT2 := Lib.hid (fun w1 (d : DR w1 Q R g B (p + b) 0) => take_ok Q R g (p + b) 1 B w1 d hB (by omega))
    rw [show ((1 : Nat) : Int) = 1 from rfl] at HT2
    rw [tk_drop hB] at HZ
    simp only at HZ
    have hcl := bitsAt_lt B (p + b) 1
    obtain ⟨c,hc⟩ : ∃ c,bitsAt B (p + b) 1 = c := ⟨_,rfl⟩
    rw [hc] at HT2 HZ hcl
    obtain ⟨D,hD⟩ : ∃ D : Int,2 * (t : Int) + (c : Int) = D := ⟨_,rfl⟩
    have hw2 : wrap64 D = D := IntWalk.wrap64_in _ ⟨by omega,by omega⟩
    obtain ⟨E,hE⟩ : ∃ E : Int,D - (u : Int) = E := ⟨_,rfl⟩
    have hw3 : wrap64 E = E := IntWalk.wrap64_in _ ⟨by omega,by omega⟩
    have HE : Hid (E = ((2 * t + c - u : Nat) : Int)) := by show _ = _;omega
    have HH := Lib.hid h
    have HA := Lib.hid hB
    clear h l1 l2 l3 hl0 hPw hb hPb hu hu0 hA hB hvl ht hlt hc hcl
    go_enter Tryz.func152,Tryz.ntmps152
    go_wp2_with (go_at_call 181;(refine HC.out.mono ?_;rintro e w1 ⟨rfl,q,rfl⟩))
    have k0 := (Keeps.refl w []).drewN q
    refine (HT.out _ (HH.out.keep k0)).mono ?_
    rintro e w2 ⟨rfl,d2,k2⟩
    go_wp2_with fail
    refine (HT2.out _ d2).mono ?_
    rintro e w3 ⟨rfl,d3,k3⟩
    go_wp2_with fail
    go_ret
    rw [← HZ.out]
    exact numEnd_ok ((((k0.mono (S' := [Q,R]) (fun _ h => by cases h)).trans k2 (fun j hj _ => by have := List.mem_singleton.1 hj;simp [this]))).trans k3 (fun j hj _ => by have := List.mem_singleton.1 hj;simp [this])) (by first | exact HE.out | (rw [hw3];exact HE.out)) HA.out d3
   ·have HT2 := Lib.hid (fun w1 (d : DR w1 Q R g B (p + b) 0) => take_no Q R g (p + b) 1 B w1 d (by omega) (by omega))
    rw [show ((1 : Nat) : Int) = 1 from rfl] at HT2
    rw [tk_short (by omega) (by omega)] at HZ
    simp only at HZ
    obtain ⟨D,hD⟩ : ∃ D : Int,2 * (t : Int) + 0 = D := ⟨_,rfl⟩
    have hD' : 2 * (t : Int) = D := by omega
    have hw2 : wrap64 D = D := IntWalk.wrap64_in _ ⟨by omega,by omega⟩
    rw [hD'] at hw1
    have HH := Lib.hid h
    clear h l1 l2 l3 hl0 hPw hb hPb hu hu0 hA hB hvl ht hlt hD
    go_enter Tryz.func152,Tryz.ntmps152
    go_wp2_with (go_at_call 181;(refine HC.out.mono ?_;rintro e w1 ⟨rfl,q,rfl⟩))
    have k0 := (Keeps.refl w []).drewN q
    refine (HT.out _ (HH.out.keep k0)).mono ?_
    rintro e w2 ⟨rfl,d2,k2⟩
    go_wp2_with fail
    refine (HT2.out _ d2).mono ?_
    rintro e w3 ⟨rfl,d3,k3⟩
    go_wp2_with fail
    go_ret
    rw [← HZ.out]
    exact numEnd_no ((((k0.mono (S' := [Q,R]) (fun _ h => by cases h)).trans k2 (fun j hj _ => by have := List.mem_singleton.1 hj;simp [this]))).trans k3 (fun j hj _ => by have := List.mem_singleton.1 hj;simp [this])) (by decide) d3
 ·have HT := Lib.hid (fun w1 (d : DR w1 Q R g B p 0) => take_no Q R g p b B w1 d (by omega) (by omega))
  rw [tk_short (by omega) hl0] at HZ
  simp only at HZ
  have hlt' : (0 : Int) < (u : Int) := by omega
  have HH := Lib.hid h
  clear h l1 l2 l3 hl0 hPw hb hPb hu hu0 hA
  go_enter Tryz.func152,Tryz.ntmps152
  go_wp2_with (go_at_call 181;(refine HC.out.mono ?_;rintro e w1 ⟨rfl,q,rfl⟩))
  have k0 := (Keeps.refl w []).drewN q
  refine (HT.out _ (HH.out.keep k0)).mono ?_
  rintro e w2 ⟨rfl,d2,k2⟩
  go_wp2_with fail
  go_ret
  rw [← HZ.out]
  exact numEnd_no (((k0.mono (S' := [Q,R]) (fun _ h => by cases h)).trans k2 (fun j hj _ => by have := List.mem_singleton.1 hj;simp [this]))) (by decide) d2
end

section
open Go.RowKit

def lenV : Value → Nat
 | .slice _ n _ => n
 | _ => 0
def NoDone (w : World) (Q R g : Nat) (B : List Int) (out : List Int) (n : Nat) (Z : Except Int (List Int × List Bool)) : Prop :=
 match Z with
  | .ok (o,L2) => o = out ++ List.replicate n 0 ∧ ∃ p',L2 = (rowBits B).drop p' ∧ p' ≤ 8 * B.length ∧ DR w Q R g B p' 0
  | .error e => e ≠ 0 ∧ ∃ p',DR w Q R g B p' e
theorem NoDone.old {w w' : World} {Q R g n N : Nat} {B out : List Int} {Z : Except Int (List Int × List Bool)} {S : List Nat} (h : NoDone w Q R g B out n Z) (k : Keeps w w' S) (hQ : Q < N) (hR : R < N) (hg : 0 < B.length → g < N) (hS : ∀ x ∈ S,N ≤ x) : NoDone w' Q R g B out n Z := by
 cases Z with
 | ok z => obtain ⟨h1,p',h2,h3,h4⟩ := h;exact ⟨h1,p',h2,h3,h4.old k hQ hR hg hS⟩
 | error e => obtain ⟨h1,p',h4⟩ := h;exact ⟨h1,p',h4.old k hQ hR hg hS⟩
def NoEnd (w : World) (Q R g : Nat) (B : List Int) (out : List Int) (Z : Except Int (List Int × List Bool)) (e : Ending) (w' : World) : Prop :=
 ∃ n a c,e = .returned (.slice a n c) ∧ w'.ownsRow w.heap.size 3 1 (.slice a n c) n ((List.replicate n (0 : Int)).map (.int .i64)) ∧ n ≤ 1000 ∧ NoDone w' Q R g B out n Z ∧ Keeps w w' [Q,R]

theorem own_old {w w' : World} {base : Nat} {e : TypeId} {size n : Nat} {v : Value} {xs : List Value} {S : List Nat} (h : w.ownsRow base e size v n xs) (k : Keeps w w' S) (hn : ∀ x,v.ownBlock = some x → x ∉ S) : w'.ownsRow base e size v n xs := by
 refine ⟨h.1,?_⟩
 rcases h.2 with h2 | ⟨g,cp,cur,rfl,hg,hb,r⟩
 ·exact .inl h2
 ·exact .inr ⟨g,cp,cur,rfl,hg,(k.block g (Array.getElem?_eq_some_iff.1 hb).1 (hn g rfl)).trans hb,r⟩
theorem rep_map (n : Nat) : (List.replicate n (0 : Int)).map (Value.int .i64) = List.replicate n (.int .i64 0) := by simp
theorem rep_snoc (n k : Nat) : List.replicate n (Value.int .i64 0) ++ List.replicate k (.int .i64 0) = List.replicate (n + k) (.int .i64 0) := by simp

set_option maxHeartbeats 4000000 in
theorem noughts_any (Q R g p room : Nat) (B out : List Int) (w : World) (h : DR w Q R g B p 0) (hr : room ≤ 256) :
  Calls Tryz.prog 153 #[.pointer (some ⟨Q,0,none⟩),.int .i64 room,takeV Q] w (NoEnd w Q R g B out (zerosP (out.length + room) (out.length + room + 1) ((rowBits B).drop p) out)) := by
 obtain ⟨i0,hi,hz0,hz1,hz2⟩ := info_parts Tryz.infoInt
 obtain ⟨Z,hZ⟩ : ∃ Z,zerosP (out.length + room) (out.length + room + 1) ((rowBits B).drop p) out = Z := ⟨_,rfl⟩
 rw [hZ]
 have HZ := Lib.hid hZ
 have HH := Lib.hid h
 obtain ⟨lQ,lR,lg⟩ := h.lt
 have LG := Lib.hid lg
 have hp := h.rd.hab
 clear h hZ lg
 go_enter Tryz.func153,Tryz.ntmps153
 go_wp2_with fail
 go_loopw [6,7] (fun s6 s7 wr => ∃ (n c k : Nat) (a : Option Addr),s6 = .slice a n c ∧ s7 = .int .i64 (k : Int) ∧ k ≤ 3 ∧ n ≤ room + 3 ∧ wr.ownsRow w.heap.size 3 1 (.slice a n c) n (List.replicate n (.int .i64 0)) ∧ Keeps w wr [Q,R] ∧
   ((k = 3 ∧ ∃ p' f,p' ≤ 8 * B.length ∧ DR wr Q R g B p' 0 ∧ 1 ≤ f ∧ room + 1 ≤ f + n ∧ Hid (zerosP (out.length + room) f ((rowBits B).drop p') (out ++ List.replicate n 0) = Z)) ∨ (k ≠ 3 ∧ NoDone wr Q R g B out n Z)))
  (fun s6 s7 _ => 2 * (room + 3 - lenV s6) + (intOf s7).toNat / 3)
 case atStart => exact ⟨0,0,3,none,rfl,rfl,by omega,by omega,World.ownsRow_nil _ _ _ _,Keeps.refl _ _,.inl ⟨rfl,p,out.length + room + 1,hp,HH.out,by omega,by omega,by simpa using HZ⟩⟩
 case round =>
  obtain ⟨n,c,k,a,rfl,rfl,hk3,hn,own,kk,hcase⟩ := hrel
  rcases hcase with ⟨rfl,p',f,hp',hd,hf1,hf,hz⟩ | ⟨hk,hdone⟩
  ·obtain ⟨f',rfl⟩ : ∃ f',f = f' + 1 := ⟨f - 1,by omega⟩
   have HD := Lib.hid hd
   have OW := Lib.hid own
   have hs := kk.size
   have hL : (out ++ List.replicate n (0 : Int)).length = out.length + n := by simp
   unfold zerosP at hz
   by_cases hroom : n < room
   ·have hr1 : (n : Int) < (room : Int) := by omega
    have hz1 := hz.out
    rw [if_neg (by rw [hL];omega)] at hz1
    clear hz hd own
    have HM := Lib.hid (must_true Q R g p' B 13 wr HD.out)
    by_cases hA : p' + 2 ≤ 8 * B.length
    ·rw [tk_drop hA] at hz1
     simp only at hz1
     have HT := Lib.hid (take_ok Q R g p' 2 B wr HD.out hA (by omega))
     have hv := bitsAt_lt B p' 2
     obtain ⟨k2,hk2⟩ : ∃ k2,bitsAt B p' 2 = k2 := ⟨_,rfl⟩
     rw [hk2] at HT hz1 hv
     rw [List.append_assoc,List.replicate_append_replicate] at hz1
     have HZ1 := Lib.hid hz1
     have hk3' : k2 ≤ 3 := by omega
     clear hz1 hv hk2
     go_wp2_with (go_at_call 151;(refine HM.out.mono ?_;rintro e w1 ⟨rfl,rfl⟩))
     refine HT.out.mono ?_
     rintro e w2 ⟨rfl,d2,k2'⟩
     have OW2 := Lib.hid (own_old OW.out k2' (fun x hx hm => by have := List.mem_singleton.1 hm;have := (OW.out.lt x hx).1;omega))
     have hs2 := k2'.size
     have HD2 := Lib.hid d2
     have kk2 : Keeps w w2 [Q,R] := kk.trans k2' (fun j hj _ => by have := List.mem_singleton.1 hj;simp [this])
     clear d2 k2'
     go_wp2_with (at_builtin;(refine wpList_append_zeros rfl _ _ 25 3 rfl w.heap.size 3 i0 (.int .i64 0) .i64 .i64 8 Tryz.underlying25 Tryz.underlying3 hi hz0 hz1 hz2 rfl rfl (.slice a n c) n _ rfl OW2.out k2 rfl (by unfold maxLen;omega) (by omega) (by omega) ?_;intro a3 c3 w3 own3 k3))
     have HD3 := Lib.hid (HD2.out.old k3 lQ lR LG.out (fun x hx => by
      cases a with
      | none => simp [Value.ownBlock] at hx
      | some ad => simp [Value.ownBlock] at hx;subst hx;exact (OW.out.lt _ rfl).1))
     have kk3 : Keeps w w3 [Q,R] := kk2.trans k3 (fun j hj hl => by
      cases a with
      | none => simp [Value.ownBlock] at hj
      | some ad => simp [Value.ownBlock] at hj;subst hj;have := (OW.out.lt _ rfl).1;omega)
     rw [rep_snoc] at own3
     have OW3 := Lib.hid own3
     clear own3 k3
     go_roundw
     case rel =>
      refine ⟨n + k2,c3,k2,a3,rfl,rfl,hk3',by omega,OW3.out,kk3,?_⟩
      by_cases h3 : k2 = 3
      ·subst h3
       have := HZ1.out
       rw [if_pos rfl] at this
       exact .inl ⟨rfl,p' + 2,f',by omega,HD3.out,by omega,by omega,this⟩
      ·have := HZ1.out
       rw [if_neg h3] at this
       subst this
       exact .inr ⟨h3,rfl,p' + 2,rfl,by omega,HD3.out⟩
     case measure =>
      simp only [lenV,intOf]
      omega
    ·rw [tk_short (by omega) (by omega)] at hz1
     simp only at hz1
     have HT := Lib.hid (take_no Q R g p' 2 B wr HD.out (by omega) (by omega))
     have HZ1 := Lib.hid hz1
     clear hz1
     go_wp2_with (go_at_call 151;(refine HM.out.mono ?_;rintro e w1 ⟨rfl,rfl⟩))
     refine HT.out.mono ?_
     rintro e w2 ⟨rfl,d2,k2'⟩
     have OW2 := Lib.hid (own_old OW.out k2' (fun x hx hm => by have := List.mem_singleton.1 hm;have := (OW.out.lt x hx).1;omega))
     have hs2 := k2'.size
     have HD2 := Lib.hid d2
     have kk2 : Keeps w w2 [Q,R] := kk.trans k2' (fun j hj _ => by have := List.mem_singleton.1 hj;simp [this])
     clear d2 k2'
     go_wp2_with (at_builtin;(refine wpList_append_zeros rfl _ _ 25 3 rfl w.heap.size 3 i0 (.int .i64 0) .i64 .i64 8 Tryz.underlying25 Tryz.underlying3 hi hz0 hz1 hz2 rfl rfl (.slice a n c) n _ rfl OW2.out 0 rfl (by unfold maxLen;omega) (by omega) (by omega) ?_;intro a3 c3 w3 own3 k3))
     have HD3 := Lib.hid (HD2.out.old k3 lQ lR LG.out (fun x hx => by
      cases a with
      | none => simp [Value.ownBlock] at hx
      | some ad => simp [Value.ownBlock] at hx;subst hx;exact (OW.out.lt _ rfl).1))
     have kk3 : Keeps w w3 [Q,R] := kk2.trans k3 (fun j hj hl => by
      cases a with
      | none => simp [Value.ownBlock] at hj
      | some ad => simp [Value.ownBlock] at hj;subst hj;have := (OW.out.lt _ rfl).1;omega)
     rw [rep_snoc] at own3
     have OW3 := Lib.hid own3
     clear own3 k3
     go_roundw
     case rel =>
      refine ⟨n,c3,0,a3,rfl,rfl,by omega,by omega,OW3.out,kk3,.inr ⟨by omega,?_⟩⟩
      rw [← HZ1.out]
      exact ⟨by decide,p',HD3.out⟩
     case measure =>
      simp only [lenV,intOf]
      omega
   ·have hr1 : decide (n < room) = false := decide_eq_false (by omega)
    have hr2 : decide ((n : Int) < (room : Int)) = false := decide_eq_false (by omega)
    have hz1 := hz.out
    rw [if_pos (by rw [hL];omega)] at hz1
    have HZ1 := Lib.hid hz1
    have HM := Lib.hid (must_no Q R g p' B 13 (by decide) wr HD.out)
    clear hz1 hz hd own
    go_wp2_with (go_at_call 151;(refine HM.out.mono ?_;rintro e w1 ⟨rfl,d1,k1⟩))
    go_ret
    have hsp := own_old OW.out k1 (fun x hx hm => by have := List.mem_singleton.1 hm;have := (OW.out.lt x hx).1;omega)
    refine ⟨n,a,c,rfl,by rw [rep_map];exact hsp,by omega,?_,kk.trans k1 (fun j hj _ => by have := List.mem_singleton.1 hj;simp [this])⟩
    rw [← HZ1.out]
    exact ⟨by decide,p',d1⟩
  ·have e3 : (((k : Nat) : Int) == 3) = false := by simp;omega
   have HD := Lib.hid hdone
   have OW := Lib.hid own
   clear hdone own hk
   go_wp2_with fail
   go_ret
   exact ⟨n,a,c,rfl,by rw [rep_map];exact OW.out,by omega,HD.out,kk⟩
end

end Go.Proofs.YtcmagccfagijlaaGreat
