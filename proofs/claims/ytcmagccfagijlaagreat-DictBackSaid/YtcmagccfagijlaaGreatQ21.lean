/-
  Walk over package norm: Normalize. (Printed by mkZj.py.)
-/
import Derived.Test.YtcmagccfagijlaaGreatQ20
namespace Go.Proofs.YtcmagccfagijlaaGreat
set_option linter.unusedVariables false
set_option linter.unusedSimpArgs false
set_option linter.unusedSectionVars false
set_option maxRecDepth 100000
open Go.RowKit

structure NMem (w0 w : World) (b2 b6 n : Nat) (v : Value) (C N : List Int) (S T : Int) : Prop where
 c2 : Blk w b2 #[v] 25
 c4 : Blk w (b2 + 1) #[.int .i64 0,.slice none 0 0] 27
 c6 : Blk w b6 #[.int .i64 T] 3
 c9 : Blk w (b6 + 1) #[.int .i64 S] 3
 row : RowI w (b6 + 2) n n N
 c10 : Blk w (b6 + 3) #[.slice (some ⟨b6 + 2,0,none⟩) n n] 25
 rd : RdI .i64 w v C
 kk : Keeps w0 w []
 old : ∀ ad m c,v = .slice (some ad) m c → 0 < m → ad.block < b2
 b2e : w0.heap.size = b2
 lt : b2 + 1 < b6
theorem NMem.size {w0 w : World} {b2 b6 n : Nat} {v : Value} {C N : List Int} {S T : Int} (h : NMem w0 w b2 b6 n v C N S T) : b6 + 4 ≤ w.heap.size := h.c10.lt
theorem NMem.keeps {w0 w w' : World} {b2 b6 n : Nat} {v : Value} {C N : List Int} {S T : Int} {X : List Nat} (h : NMem w0 w b2 b6 n v C N S T) (k : Keeps w w' X) (hX : ∀ x ∈ X,b6 + 4 ≤ x) : NMem w0 w' b2 b6 n v C N S T := by
 have hl := h.lt
 have hn : ∀ y,y < b6 + 4 → y ∉ X := fun y hy hm => by have := hX y hm;omega
 exact ⟨h.c2.keeps k (hn _ (by omega)),h.c4.keeps k (hn _ (by omega)),h.c6.keeps k (hn _ (by omega)),h.c9.keeps k (hn _ (by omega)),h.row.keeps k (hn _ (by omega)),h.c10.keeps k (hn _ (by omega)),h.rd.keepsS k (fun ad m c e h0 => hn _ (by have := h.old ad m c e h0;omega)),h.kk.trans k (fun j hj hlt => by have := hX j hj;have := h.b2e;omega),h.old,h.b2e,hl⟩
theorem NMem.set {w0 w : World} {b2 b6 n : Nat} {v : Value} {C N : List Int} {S T : Int} (h : NMem w0 w b2 b6 n v C N S T) (i : Nat) (x : Int) : NMem w0 (w.setCell ⟨b6 + 2,i,none⟩ (.int .i64 x)) b2 b6 n v C (N.set i x) S T := by
 have hl := h.lt
 have k : Keeps w (w.setCell ⟨b6 + 2,i,none⟩ (.int .i64 x)) [b6 + 2] := (Keeps.refl w _).setCell (.inr (by simp)) _
 have hn : ∀ y,y ≠ b6 + 2 → y ∉ [b6 + 2] := fun y hy hm => hy (List.mem_singleton.1 hm)
 exact ⟨h.c2.keeps k (hn _ (by omega)),h.c4.keeps k (hn _ (by omega)),h.c6.keeps k (hn _ (by omega)),h.c9.keeps k (hn _ (by omega)),h.row.set i x,h.c10.keeps k (hn _ (by omega)),h.rd.keepsS k (fun ad m c e h0 => hn _ (by have := h.old ad m c e h0;omega)),h.kk.trans k (fun j hj hlt => by have := List.mem_singleton.1 hj;have := h.b2e;omega),h.old,h.b2e,hl⟩
theorem NMem.cast {w0 w : World} {b2 b6 n : Nat} {v : Value} {C N N' : List Int} {S T : Int} (h : NMem w0 w b2 b6 n v C N S T) (e : N = N') : NMem w0 w b2 b6 n v C N' S T := e ▸ h

theorem initN_get {C : List Int} {S T : Int} {i : Nat} {x : Int} (h : C[i]? = some x) : (initN C S T)[i]? = some (if 0 < x then (if x * S / T < 1 then 1 else x * S / T) else 0) := by
 unfold initN;rw [List.getElem?_map,h];rfl
theorem initN_len (C : List Int) (S T : Int) : (initN C S T).length = C.length := by simp [initN]
theorem initN_sum {S T : Int} (hT : 0 < T) (hS : 0 ≤ S) : ∀ C : List Int,(∀ x ∈ C,0 ≤ x) → (sumZ (initN C S T)) * T ≤ sumZ C * S + (C.length : Int) * T
 | [],_ => by simp [initN,sumZ]
 | c :: C,h => by
  have ih := initN_sum hT hS C (fun x hx => h x (by simp [hx]))
  have hc := h c (by simp)
  have h1 : c * S / T * T ≤ c * S := Int.ediv_mul_le _ (by omega)
  have h2 : 0 ≤ c * S := Int.mul_nonneg hc hS
  have e : initN (c :: C) S T = (if 0 < c then (if c * S / T < 1 then 1 else c * S / T) else 0) :: initN C S T := rfl
  rw [e]
  simp only [sumZ,List.length_cons,Int.add_mul,Int.natCast_add,Int.natCast_one,Int.one_mul]
  split
  ·split <;> omega
  ·omega
theorem getD_le_sum : ∀ {l : List Int},(∀ x ∈ l,0 ≤ x) → ∀ i,0 ≤ l.getD i 0 ∧ l.getD i 0 ≤ sumZ l
 | [],_,i => by simp [sumZ]
 | x :: l,h,0 => by
  have h1 := h x (by simp)
  have h2 := sumZ_nonneg (l := l) (fun y hy => h y (by simp [hy]))
  simp only [List.getD_cons_zero,sumZ];omega
 | x :: l,h,i + 1 => by
  have h1 := h x (by simp)
  have h2 := getD_le_sum (l := l) (fun y hy => h y (by simp [hy])) i
  simp only [List.getD_cons_succ,sumZ];omega
theorem MendOk.nonneg {C N : List Int} {S T : Int} (h : MendOk C N S T) (hC : ∀ i,i < C.length → 0 ≤ C.getD i 0) : ∀ x ∈ N,0 ≤ x := fun x hx => by
 obtain ⟨i,hi⟩ := List.getElem?_of_mem hx
 have hil := (List.getElem?_eq_some_iff.1 hi).1
 rw [h.len] at hil
 have hg : N.getD i 0 = x := by rw [List.getD_eq_getElem?_getD,hi];rfl
 by_cases h0 : C.getD i 0 = 0
 ·have := h.zero i hil h0;omega
 ·have := h.pos i hil (by have := hC i hil;omega);omega

set_option maxHeartbeats 2000000 in
theorem nz4_any (bF bC bS bN bT g i n c : Nat) (v : Value) (C N : List Int) (S T : Int) (w : World) (hbF : Blk w bF #[.func (.func 198) #[] #[.pointer (some ⟨bC,0,none⟩),.pointer (some ⟨bS,0,none⟩),.pointer (some ⟨bN,0,none⟩),.pointer (some ⟨bT,0,none⟩)]] 104)
  (hbC : Blk w bC #[v] 25) (hv : RdI .i64 w v C) (hbS : Blk w bS #[.int .i64 S] 3) (hbN : Blk w bN #[.slice (some ⟨g,0,none⟩) n c] 25) (hN : RowI w g n c N) (hbT : Blk w bT #[.int .i64 T] 3)
  (hi : i < n) (hl : C.length = n) (hc : 0 ≤ C.getD i 0 ∧ C.getD i 0 ≤ 1099511627776) (hS : 0 ≤ S ∧ S ≤ 512) (hNi : 0 ≤ N.getD i 0 ∧ N.getD i 0 ≤ 1024) (hT : 0 ≤ T ∧ T ≤ 1099511627776) :
  Calls Tryz.prog 201 #[.int .i64 (i : Int),.pointer (some ⟨bF,0,none⟩)] w fun e w' => e = .returned (.int .i64 (- aboveF C N S T i)) ∧ Keeps w w' [] := by
 have HZ := Lib.hid (nz1_any bC bS bN bT g i n c v C N S T w hbC hv hbS hbN hN hbT hi hl hc hS hNi hT)
 have hxS : 0 ≤ C.getD i 0 * S ∧ C.getD i 0 * S ≤ 1099511627776 * 512 := ⟨Int.mul_nonneg hc.1 hS.1,Int.mul_le_mul hc.2 hS.2 hS.1 (by decide)⟩
 have hyT : 0 ≤ N.getD i 0 * T ∧ N.getD i 0 * T ≤ 1024 * 1099511627776 := ⟨Int.mul_nonneg hNi.1 hT.1,Int.mul_le_mul hNi.2 hT.2 hT.1 (by decide)⟩
 have hA : -2000000000000000 ≤ aboveF C N S T i ∧ aboveF C N S T i ≤ 2000000000000000 := by unfold aboveF;omega
 obtain ⟨A,hAe⟩ : ∃ A,aboveF C N S T i = A := ⟨_,rfl⟩
 rw [hAe] at HZ hA ⊢
 obtain ⟨B,hB⟩ : ∃ B : Int,-A = B := ⟨_,rfl⟩
 rw [hB]
 have hwB : wrap64 B = B := IntWalk.wrap64_in _ ⟨by omega,by omega⟩
 obtain ⟨c0,-⟩ := hbF.one
 clear hbF hbC hv hbS hbN hN hbT hi hl hc hS hNi hT hxS hyT hAe
 go_enter Tryz.func201,Tryz.ntmps201
 go_wp2_with (go_at_call 198;(refine HZ.out.mono ?_;rintro e w1 ⟨rfl,k1⟩))
 go_ret
 exact ⟨by first | rfl | (show Ending.returned (.int .i64 (wrap64 B)) = _;rw [hwB]),k1⟩

theorem posN_zero : ∀ {C : List Int},(∀ x ∈ C,¬ 0 < x) → posN C = 0
 | [],_ => rfl
 | c :: C,h => by
  have := posN_zero (C := C) (fun x hx => h x (by simp [hx]))
  simp only [posN,this]
  rw [if_neg (h c (by simp))]
  rfl
theorem usedN_pos {C : List Int} (h : 0 < posN C) : 0 < usedN C C.length := by
 by_cases h0 : 0 < usedN C C.length
 ·exact h0
 ·exfalso
  have := posN_zero (C := C) (fun x hx => by
   obtain ⟨i,hi⟩ := List.getElem?_of_mem hx
   have hil := (List.getElem?_eq_some_iff.1 hi).1
   have := usedN_after (C := C) (n := C.length) (i := i) (by omega) hil
   have hg : C.getD i 0 = x := by rw [List.getD_eq_getElem?_getD,hi];rfl
   rw [hg] at this
   exact this)
  omega
theorem markN_get {C N : List Int} {S T x : Int} {j : Nat} (h : C[j]? = some x) : (markN C N S T)[j]? = some (if 0 < x ∧ x * S < T then -1 else N.getD j 0) := by
 have hl := (List.getElem?_eq_some_iff.1 h).1
 unfold markN
 rw [List.getElem?_map,List.getElem?_range hl]
 have hg : C.getD j 0 = x := by rw [List.getD_eq_getElem?_getD,h];rfl
 simp only [Option.map_some,hg]
theorem mark_set {C N : List Int} {S T x : Int} {j : Nat} (h : C[j]? = some x) (hl : N.length = C.length) (hc : 0 < x ∧ x * S < T) : ((markN C N S T).take j ++ N.drop j).set j (-1) = (markN C N S T).take (j + 1) ++ N.drop (j + 1) := by
 have hlt := (List.getElem?_eq_some_iff.1 h).1
 have hml := markN_len C N S T
 have hm := markN_get (N := N) (S := S) (T := T) h
 rw [if_pos hc] at hm
 have ht : ((markN C N S T).take j).length = j := by rw [List.length_take];omega
 rw [List.set_append_right _ _ (by omega),ht,Nat.sub_self,List.take_add_one,hm,List.drop_eq_getElem_cons (show j < N.length by omega),List.set_cons_zero]
 simp
theorem mark_stay {C N : List Int} {S T x : Int} {j : Nat} (h : C[j]? = some x) (hl : N.length = C.length) (hc : ¬ (0 < x ∧ x * S < T)) : (markN C N S T).take j ++ N.drop j = (markN C N S T).take (j + 1) ++ N.drop (j + 1) := by
 have hlt := (List.getElem?_eq_some_iff.1 h).1
 have hm := markN_get (N := N) (S := S) (T := T) h
 rw [if_neg hc,List.getD_eq_getElem?_getD,List.getElem?_eq_getElem (show j < N.length by omega)] at hm
 rw [List.take_add_one,hm,List.drop_eq_getElem_cons (show j < N.length by omega)]
 simp

set_option maxHeartbeats 8000000 in
theorem nnorm_ok (v : Value) (C : List Int) (log : Nat) (w : World) (hv : RdI .i64 w v C) (hC : ∀ x ∈ C,0 ≤ x) (hT0 : 0 < sumZ C) (hT : sumZ C ≤ 1099511627776) (hl : C.length ≤ 256) (hlog : log ≤ 9) (hp0 : 0 < posN C) (hp : posN C ≤ ((2 ^ log : Nat) : Int)) :
  Calls Tryz.prog 177 #[v,.int .i64 (log : Int)] w fun e w' => ∃ a c,e = .returned (.tuple #[.agg #[.int .i64 (log : Int),.slice a (usedN C C.length) c],.int .i64 0]) ∧ RdI .i64 w' (.slice a (usedN C C.length) c) (normF C ((2 ^ log : Nat) : Int) (sumZ C)) ∧ Keeps w w' [] := by
 have hmf : ∀ (fn : Fn) (first cap : Array Value) (w : World),(Instr.makeFunc fn first cap).run Tryz.prog w = .ok (.func fn first cap) w := fun _ _ _ _ => rfl
 obtain ⟨A0,n,cp,rfl,hn,-⟩ := hv.form
 have k0 : Keeps w ((w.alloc (.cells #[.slice A0 n cp] 25)).alloc (.cells #[.int .i64 0,.slice none 0 0] 27)) [] := ((Keeps.refl w []).alloc _).alloc _
 have q2 := (Blk.new w #[.slice A0 n cp] 25).alloc (.cells #[.int .i64 0,.slice none 0 0] 27)
 have q4 := Blk.new (w.alloc (.cells #[.slice A0 n cp] 25)) #[.int .i64 0,.slice none 0 0] 27
 simp only [World.size_alloc] at q4
 have HALL := Lib.hid (nall_ok _ C _ (hv.keeps k0) (by omega) hC hT hp0)
 have hn256 : n ≤ 256 := by omega
 have hmk : ∀ w,(Instr.makeSlice 25 (.int .i64 (n : Int)) (.int .i64 (n : Int))).run Tryz.prog w = .ok (.slice (some ⟨w.heap.size,0,none⟩) n n) (w.alloc (.cells (ints (List.replicate n 0)) 3)) := make_ints n (by omega)
 have h29 : 2 ^ log ≤ 2 ^ 9 := Nat.pow_le_pow_right (by decide) hlog
 rw [show (2 : Nat) ^ 9 = 512 by decide] at h29
 have h21 : 1 ≤ 2 ^ log := Nat.one_le_two_pow
 have hpe : ((2 : Int) ^ log) = ((2 ^ log : Nat) : Int) := by simp
 have hpb := posN_bound C
 have HNF : Hid (∀ i,i < C.length → 0 ≤ C.getD i 0) := Lib.hid (fun i hi => (getD_le_sum hC i).1)
 have HCB : Hid (∀ i,C.getD i 0 ≤ 1099511627776) := Lib.hid (fun i => by have := (getD_le_sum hC i).2;omega)
 have HLOG := Lib.hid (show ((2 ^ log : Nat) : Int) = ((2 ^ log : Nat) : Int) from rfl)
 obtain ⟨q,hq⟩ : ∃ q,2 ^ log = q := ⟨_,rfl⟩
 rw [hq] at hp hpe h29 h21 ⊢
 obtain ⟨S,hS⟩ : ∃ S : Int,(q : Int) = S := ⟨_,rfl⟩
 rw [hS] at hp hpe ⊢
 have HQ := Lib.hid (show S = ((2 ^ log : Nat) : Int) by rw [hq,hS])
 have hS1 : 1 ≤ S := by omega
 have hS5 : S ≤ 512 := by omega
 obtain ⟨T,hTe⟩ : ∃ T,sumZ C = T := ⟨_,rfl⟩
 rw [hTe] at hT0 hT HALL ⊢
 have HTE := Lib.hid hTe
 obtain ⟨U,hU⟩ : ∃ U,posN C = U := ⟨_,rfl⟩
 rw [hU] at hp0 hp hpb HALL
 have HU := Lib.hid hU
 obtain ⟨us,hus⟩ : ∃ u,usedN C C.length = u := ⟨_,rfl⟩
 obtain ⟨NF,hNF⟩ : ∃ N,normF C S T = N := ⟨_,rfl⟩
 rw [hus,hNF]
 have HUSE := Lib.hid hus
 have HNFD := Lib.hid hNF
 clear hus hNF
 have hsum := initN_sum (S := S) hT0 (by omega) C hC
 have HIS : Hid (sumZ (initN C S T) ≤ S + 256) := Lib.hid (by
  rw [hTe] at hsum
  have h1 : sumZ (initN C S T) * T ≤ (S + 256) * T := by
   rw [Int.add_mul]
   have h2 : (C.length : Int) * T ≤ 256 * T := Int.mul_le_mul_of_nonneg_right (by omega) (by omega)
   rw [Int.mul_comm T S] at hsum
   omega
  exact Int.le_of_mul_le_mul_right h1 hT0)
 have HN := Lib.hid hn
 have HCM := Lib.hid hC
 have hwS : wrap64 S = S := IntWalk.wrap64_in _ ⟨by omega,by omega⟩
 have hUS : decide (S < U) = false := decide_eq_false (by omega)
 have hl1 : decide ((log : Int) < 0) = false := decide_eq_false (by omega)
 have hl2 : decide ((9 : Int) < (log : Int)) = false := decide_eq_false (by omega)
 have hl3 : decide (9 < log) = false := decide_eq_false (by omega)
 have HVO := Lib.hid (show ∀ ad m c,(Value.slice A0 n cp) = .slice (some ad) m c → 0 < m → ad.block < w.heap.size from fun ad m c e h0 => by
  cases e
  obtain ⟨b,o,he,hb,-⟩ := hv.addr h0
  cases he
  exact hb)
 have HV := Lib.hid hv
 obtain ⟨c0,-⟩ := q2.one
 clear hv hC hn hq hS hTe hU hsum hl
 go_enter Tryz.func177,Tryz.ntmps177
 go_wp2_with (go_at_call 197;(refine HALL.out.mono ?_;rintro e w1 ⟨rfl,k1⟩;have p2 := q2.keeps k1 (by simp);have p4 := q4.keeps k1 (by simp);have kk1 := k0.then k1;have hs1 := k1.size;simp only [World.size_alloc] at hs1;have hlw : w.heap.size < w1.heap.size := (by omega);clear c0;obtain ⟨c0,-⟩ := p2.one))
 have HPM := Lib.hid (show _ ∧ _ from ⟨p2,p4⟩)
 obtain ⟨B6,hB6⟩ : ∃ B,w1.heap.size = B := ⟨_,rfl⟩
 have M0 : NMem w ((((w1.alloc (.cells #[.int .i64 T] 3)).alloc (.cells #[.int .i64 S] 3)).alloc (.cells (ints (List.replicate n 0)) 3)).alloc (.cells #[.slice (some ⟨B6 + 2,0,none⟩) n n] 25)) w.heap.size B6 n (.slice A0 n cp) C ((initN C S T).take 0 ++ List.replicate (n - 0) 0) S T := by
  have kall : Keeps w1 ((((w1.alloc (.cells #[.int .i64 T] 3)).alloc (.cells #[.int .i64 S] 3)).alloc (.cells (ints (List.replicate n 0)) 3)).alloc (.cells #[.slice (some ⟨B6 + 2,0,none⟩) n n] 25)) [] := ((((Keeps.refl w1 []).alloc _).alloc _).alloc _).alloc _
  have r6 := (((Blk.new w1 #[.int .i64 T] 3).alloc (.cells #[.int .i64 S] 3)).alloc (.cells (ints (List.replicate n 0)) 3)).alloc (.cells #[.slice (some ⟨B6 + 2,0,none⟩) n n] 25)
  have r9 := ((Blk.new (w1.alloc (.cells #[.int .i64 T] 3)) #[.int .i64 S] 3).alloc (.cells (ints (List.replicate n 0)) 3)).alloc (.cells #[.slice (some ⟨B6 + 2,0,none⟩) n n] 25)
  have r10 := Blk.new (((w1.alloc (.cells #[.int .i64 T] 3)).alloc (.cells #[.int .i64 S] 3)).alloc (.cells (ints (List.replicate n 0)) 3)) #[.slice (some ⟨B6 + 2,0,none⟩) n n] 25
  have rr : RowI (((w1.alloc (.cells #[.int .i64 T] 3)).alloc (.cells #[.int .i64 S] 3)).alloc (.cells (ints (List.replicate n 0)) 3)) ((w1.alloc (.cells #[.int .i64 T] 3)).alloc (.cells #[.int .i64 S] 3)).heap.size n n ((initN C S T).take 0 ++ List.replicate (n - 0) 0) := by
   refine ⟨by simp,by simp,.inr ⟨_,n,_,rfl,Nat.zero_le _,heap_alloc_new _ _,Nat.le_refl _,by unfold maxLen;omega,by simp [ints],by simp [ints]⟩⟩
  have rr2 := rr.keeps ((Keeps.refl _ []).alloc (.cells #[.slice (some ⟨B6 + 2,0,none⟩) n n] 25)) (by simp)
  simp only [World.size_alloc] at r9 r10 rr2
  rw [hB6] at r6 r9 r10 rr2
  exact ⟨HPM.out.1.keeps kall (by simp),HPM.out.2.keeps kall (by simp),r6,r9,rr2,r10,HV.out.keeps (kk1.then kall),kk1.then kall,HVO.out,rfl,by omega⟩
 rw [hB6]
 have HM0 := Lib.hid M0
 clear M0 HPM p2 p4 q2 q4 k0 k1 kk1 c0 HALL HV HVO
 generalize ((((w1.alloc (.cells #[.int .i64 T] 3)).alloc (.cells #[.int .i64 S] 3)).alloc (.cells (ints (List.replicate n 0)) 3)).alloc (.cells #[.slice (some ⟨B6 + 2,0,none⟩) n n] 25)) = W0 at *
 clear hmk hB6 hs1 hlw
 go_loopw [11,49] (fun s11 s49 wr => ∃ (i : Nat) (X : Int),i ≤ n ∧ s49 = .int .i64 (i : Int) ∧ s11 = .int .i64 X ∧ Hid (X = S - sumZ ((initN C S T).take i)) ∧ -256 ≤ X ∧ X ≤ 512 ∧ NMem w wr w.heap.size B6 n (.slice A0 n cp) C ((initN C S T).take i ++ List.replicate (n - i) 0) S T) (fun _ s49 _ => n - (intOf s49).toNat)
 case atStart => exact ⟨0,S,Nat.zero_le _,rfl,rfl,Lib.hid (by simp [sumZ]),by omega,by omega,HM0.out⟩
 case round =>
  clear HM0
  obtain ⟨i,X,hin,rfl,rfl,hX,hX1,hX2,mem⟩ := hrel
  have MM := Lib.hid mem
  by_cases hlt : i < n
  ·have hiI : (i : Int) < (n : Int) := by omega
   obtain ⟨x,hx⟩ : ∃ x,C[i]? = some x := ⟨_,List.getElem?_eq_getElem (by have := HN.out;omega)⟩
   have hxC := HCM.out x (List.mem_of_getElem? hx)
   have hxB : x ≤ 1099511627776 := by
    have := HCB.out i
    rw [List.getD_eq_getElem?_getD,hx] at this
    exact this
   obtain ⟨bb,o,rfl,hbb,hcx⟩ := mem.rd.at hx
   have hcap := mem.rd.cap
   have c2 := mem.c2.one
   obtain ⟨c2,-⟩ := c2
   have hget := initN_get (S := S) (T := T) hx
   obtain ⟨Y,hY⟩ : ∃ Y : Int,(if 0 < x then (if x * S / T < 1 then 1 else x * S / T) else 0) = Y := ⟨_,rfl⟩
   rw [hY] at hget
   have hst := sumZ_take hget
   have hpfx := sumZ_prefix (l := initN C S T) (fun z hz => (init_ok (C := C) (S := S) hT0).nonneg HNF.out z hz) (i + 1)
   rw [hst] at hpfx
   have hpf0 := sumZ_prefix (l := initN C S T) (fun z hz => (init_ok (C := C) (S := S) hT0).nonneg HNF.out z hz) i
   have his := HIS.out
   have HX2 : Hid (X - Y = S - sumZ ((initN C S T).take (i + 1))) := Lib.hid (by rw [hst,hX.out];omega)
   have hxb1 : -256 ≤ X - Y ∧ X - Y ≤ 512 := by have := hX.out;omega
   have hlenI : (initN C S T).length = n := by rw [initN_len,← HN.out]
   have hrow1 := (mem.set i Y).cast (take_rep_set hget hlt hlenI)
   have hB64 := mem.size
   clear hst hpfx hpf0 his
   by_cases hxp : 0 < x
   ·rw [if_pos hxp] at hY
    obtain ⟨P,hP⟩ : ∃ D : Int,x * S = D := ⟨_,rfl⟩
    have hP0 : 0 ≤ P ∧ P ≤ 1099511627776 * 512 := by
     rw [← hP]
     exact ⟨Int.mul_nonneg hxC (by omega),Int.mul_le_mul hxB hS5 (by omega) (by decide)⟩
    rw [hP] at hY
    obtain ⟨Qn,hQn⟩ : ∃ D : Int,P / T = D := ⟨_,rfl⟩
    have hQ0 : 0 ≤ Qn ∧ Qn ≤ P := by
     rw [← hQn]
     exact ⟨Int.ediv_nonneg hP0.1 (by omega),Int.ediv_le_self _ hP0.1⟩
    rw [hQn] at hY
    have htd : P.tdiv T = Qn := by rw [← hQn];exact Int.tdiv_eq_ediv_of_nonneg hP0.1
    have hv1 : IntKind.i64.wrap P = P := IntWalk.i64_in _ ⟨by omega,by omega⟩
    have hv2 : IntKind.i64.wrap Qn = Qn := IntWalk.i64_in _ ⟨by omega,by omega⟩
    have hmax : max Qn 1 = Y := by rw [← hY];split <;> omega
    have hTz : (T == 0) = false := by simp;omega
    have hTne : ¬ T = 0 := by omega
    have c73 := mem.row.at (i := i) (x := 0) (by
     rw [List.getElem?_append_right (by rw [List.length_take];omega),List.length_take,Nat.min_eq_left (by omega),Nat.sub_self]
     rw [List.getElem?_replicate,if_pos (by omega)])
    have f73 := mem.row.frozen i
    obtain ⟨d10,-⟩ := mem.c10.one
    obtain ⟨d9,-⟩ := mem.c9.one
    obtain ⟨d6,-⟩ := mem.c6.one
    have R1 := Lib.hid hrow1
    have HGY : Hid (((initN C S T).take (i + 1) ++ List.replicate (n - (i + 1)) 0)[i]? = some Y) := Lib.hid (by
     rw [List.getElem?_append_left (by rw [List.length_take];omega),List.getElem?_take_of_lt (by omega)]
     exact hget)
    clear hrow1 mem hx hget hlenI hQ0 hP0 hQn hY
    go_wp2_with fail
    go_region
    have m5 := R1.out.keeps ((Keeps.refl _ []).drew) (by simp)
    generalize ((wr.setCell ⟨B6 + 2,i,none⟩ (.int .i64 Y)).drew) = w5 at *
    clear c73 f73 d10 d9 d6
    have c74 := m5.row.at HGY.out
    obtain ⟨d10,-⟩ := m5.c10.one
    have M5 := Lib.hid m5
    obtain ⟨X',hX'⟩ : ∃ D : Int,X - Y = D := ⟨_,rfl⟩
    rw [hX'] at HX2 hxb1
    have hwX : wrap64 X' = X' := IntWalk.wrap64_in _ ⟨by omega,by omega⟩
    clear m5
    go_wp2_with fail
    go_roundw
    case rel => exact ⟨i + 1,X',by omega,by go_num,by first | rfl | rw [hwX],HX2,by omega,by omega,M5.out⟩
    case measure => clear hwX;simp [intOf];omega
   ·rw [if_neg hxp] at hY
    have hxp' : decide (0 < x) = false := decide_eq_false hxp
    have M5 := Lib.hid (mem.cast (show (initN C S T).take i ++ List.replicate (n - i) 0 = (initN C S T).take (i + 1) ++ List.replicate (n - (i + 1)) 0 by
     rw [List.take_add_one,hget,← hY,show n - i = (n - (i + 1)) + 1 by omega,List.replicate_succ]
     simp))
    have hX0 : X - Y = X := by omega
    rw [hX0] at HX2 hxb1
    clear hrow1 mem hx hget hlenI hY
    go_wp2_with fail
    go_roundw
    case rel => exact ⟨i + 1,X,by omega,by go_num,rfl,HX2,by omega,by omega,M5.out⟩
    case measure => simp [intOf];omega
  ·obtain rfl : i = n := by omega
   have hii : decide ((i : Int) < (i : Int)) = false := by simp
   have hlenI : (initN C S T).length = i := by rw [initN_len,← HN.out]
   have hXS : X = S - sumZ (initN C S T) := by rw [hX.out,List.take_of_length_le (by omega)]
   have mem1 := mem.cast (show (initN C S T).take i ++ List.replicate (i - i) 0 = initN C S T by rw [List.take_of_length_le (by omega),Nat.sub_self];simp)
   obtain ⟨c2,-⟩ := mem.c2.one
   have hmend : mendN C S T = if sumZ (initN C S T) ≤ S then upK C S T (S - sumZ (initN C S T)).toNat (initN C S T) else downK C S T (sumZ (initN C S T) - S).toNat (initN C S T) := rfl
   have hin0 := init_ok (C := C) (S := S) hT0
   have hB64 := mem1.size
   obtain ⟨B14,hB14⟩ : ∃ B,wr.heap.size = B := ⟨_,rfl⟩
   have M1 := Lib.hid mem1
   by_cases hup : 0 ≤ X
   ·have hupI : decide (X < 0) = false := decide_eq_false (by omega)
    obtain ⟨kx,hkx⟩ := Int.eq_ofNat_of_zero_le hup
    subst hkx
    have HMK : Hid (upK C S T kx (initN C S T) = mendN C S T) := Lib.hid (by rw [hmend,if_pos (by omega)];congr 1;omega)
    have HSM : Hid (sumZ (initN C S T) = S - (kx : Int)) := Lib.hid (by omega)
    have HIN := Lib.hid hin0
    clear hX mem mem1 hXS hmend hlenI hin0
    go_wp2_with fail
    have q15 := Blk.new (wr.alloc (.cells #[(.func (.func 198) #[] #[.pointer (some ⟨w.heap.size,0,none⟩),.pointer (some ⟨B6 + 1,0,none⟩),.pointer (some ⟨B6 + 3,0,none⟩),.pointer (some ⟨B6,0,none⟩)])] 104)) #[(.func (.func 199) #[] #[.pointer (some ⟨w.heap.size,0,none⟩)]),(.func (.func 198) #[] #[.pointer (some ⟨w.heap.size,0,none⟩),.pointer (some ⟨B6 + 1,0,none⟩),.pointer (some ⟨B6 + 3,0,none⟩),.pointer (some ⟨B6,0,none⟩)]),.int .i64 1] 241
    have m15 := M1.out.keeps (((Keeps.refl wr []).alloc (.cells #[(.func (.func 198) #[] #[.pointer (some ⟨w.heap.size,0,none⟩),.pointer (some ⟨B6 + 1,0,none⟩),.pointer (some ⟨B6 + 3,0,none⟩),.pointer (some ⟨B6,0,none⟩)])] 104)).alloc (.cells #[(.func (.func 199) #[] #[.pointer (some ⟨w.heap.size,0,none⟩)]),(.func (.func 198) #[] #[.pointer (some ⟨w.heap.size,0,none⟩),.pointer (some ⟨B6 + 1,0,none⟩),.pointer (some ⟨B6 + 3,0,none⟩),.pointer (some ⟨B6,0,none⟩)]),.int .i64 1] 241)) (by simp)
    simp only [World.size_alloc] at q15
    rw [hB14] at q15
    have hBB : B6 + 4 ≤ B14 := by omega
    generalize ((wr.alloc (.cells #[(.func (.func 198) #[] #[.pointer (some ⟨w.heap.size,0,none⟩),.pointer (some ⟨B6 + 1,0,none⟩),.pointer (some ⟨B6 + 3,0,none⟩),.pointer (some ⟨B6,0,none⟩)])] 104)).alloc (.cells #[(.func (.func 199) #[] #[.pointer (some ⟨w.heap.size,0,none⟩)]),(.func (.func 198) #[] #[.pointer (some ⟨w.heap.size,0,none⟩),.pointer (some ⟨B6 + 1,0,none⟩),.pointer (some ⟨B6 + 3,0,none⟩),.pointer (some ⟨B6,0,none⟩)]),.int .i64 1] 241)) = W2 at *
    have HM2 := Lib.hid (show _ ∧ _ from ⟨m15,q15⟩)
    clear m15 q15 M1 c2 hB14
    go_loopw [11] (fun s11 wr => ∃ (k : Nat) (N : List Int),s11 = .int .i64 (k : Int) ∧ k ≤ 512 ∧ Hid (MendOk C N S T) ∧ Hid (sumZ N = S - (k : Int)) ∧ Hid (upK C S T k N = mendN C S T) ∧ NMem w wr w.heap.size B6 i (.slice A0 i cp) C N S T ∧ Blk wr (B14 + 1) #[(.func (.func 199) #[] #[.pointer (some ⟨w.heap.size,0,none⟩)]),(.func (.func 198) #[] #[.pointer (some ⟨w.heap.size,0,none⟩),.pointer (some ⟨B6 + 1,0,none⟩),.pointer (some ⟨B6 + 3,0,none⟩),.pointer (some ⟨B6,0,none⟩)]),.int .i64 1] 241) (fun s11 _ => (intOf s11).natAbs)
    case atStart => exact ⟨kx,_,rfl,by omega,HIN,HSM,HMK,HM2.out.1,HM2.out.2⟩
    case round =>
     clear HM2
     obtain ⟨k,N,rfl,hk5,hmo,hsm,hmk,mem,wy⟩ := hrel
     have MM := Lib.hid mem
     have WY := Lib.hid wy
     have hBsz := mem.size
     by_cases hk0 : 0 < k
     ·obtain ⟨k1,rfl⟩ : ∃ k1,k = k1 + 1 := ⟨k - 1,by omega⟩
      obtain ⟨b,hfb,hbl,hNe,hmo2,hsm2⟩ := up_ok hmo.out hT0 HTE.out.symm HNF.out (by have := hsm.out;omega)
      have hbi : b < i := by have := HN.out;omega
      have HFB : Hid (furF (fun j => decide (0 < C.getD j 0)) (aboveF C N S T) i = some b) := Lib.hid (by rw [HN.out];exact hfb)
      have HNB := Lib.hid (fun j => getD_le_sum (hmo.out.nonneg HNF.out) j)
      have hsN : sumZ N ≤ 1024 := by have := hsm.out;omega
      have HFUR := Lib.hid (fun W (kw : Keeps wr W []) => nfur_up w.heap.size (B6 + 3) (B6 + 1) B6 i i (some ⟨B6 + 2,0,none⟩) (fun j => decide (0 < C.getD j 0)) (aboveF C N S T) W (by omega)
       (fun j W' (kj : Keeps W W' []) hj => by
        have mm := (MM.out.keeps kw (by simp)).keeps kj (by simp)
        exact nz2_any w.heap.size j (.slice A0 i cp) C W' mm.c2 mm.rd (by have := HN.out;omega))
       (fun j W' (kj : Keeps W W' []) hj => by
        have mm := (MM.out.keeps kw (by simp)).keeps kj (by simp)
        exact nz1_any w.heap.size (B6 + 1) (B6 + 3) B6 (B6 + 2) j i i (.slice A0 i cp) C N S T W' mm.c2 mm.rd mm.c9 mm.c10 mm.row mm.c6 hj HN.out.symm ⟨HNF.out j (by have := HN.out;omega),HCB.out j⟩ ⟨by omega,hS5⟩ ⟨(HNB.out j).1,by have := (HNB.out j).2;omega⟩ ⟨by omega,hT⟩))
      rw [HFB.out] at HFUR
      simp only at HFUR
      have HNN : Hid (N.set b (N.getD b 0 + 1) = upN C N S T) := Lib.hid hNe.symm
      have HSM2 : Hid (sumZ (upN C N S T) = S - (k1 : Int)) := Lib.hid (by rw [hsm2,hsm.out];omega)
      have HMO2 := Lib.hid hmo2
      have HMK2 : Hid (upK C S T k1 (upN C N S T) = mendN C S T) := hmk
      have hNlen := hmo.out.len
      have HYB : Hid (N[b]? = some (N.getD b 0)) := Lib.hid (by rw [List.getD_eq_getElem?_getD,List.getElem?_eq_getElem (by omega)];rfl)
      have hyb := HNB.out b
      obtain ⟨y,hy⟩ : ∃ y,N.getD b 0 = y := ⟨_,rfl⟩
      rw [hy] at HYB HNN hyb
      obtain ⟨Y1,hY1⟩ : ∃ D : Int,y + 1 = D := ⟨_,rfl⟩
      rw [hY1] at HNN
      have hY2 : y + 1 = Y1 := by omega
      have hwY : IntKind.i64.wrap Y1 = Y1 := IntWalk.i64_in _ ⟨by omega,by omega⟩
      have hbI : (b : Int) < (i : Int) := by omega
      have H10 : Hid (∀ w9,Keeps wr w9 [B6 + 2] → w9.cell? ⟨B6 + 3,0,none⟩ = some (.slice (some ⟨B6 + 2,0,none⟩) i i)) := Lib.hid (fun w9 k9 => (MM.out.c10.keeps k9 (by simp)).one.1)
      have HWY : Hid (∀ w9,Keeps wr w9 [B6 + 2] → w9.cell? ⟨B14 + 1,0,none⟩ = some (.func (.func 199) #[] #[.pointer (some ⟨w.heap.size,0,none⟩)]) ∧ w9.cell? ⟨B14 + 1,1,none⟩ = some (.func (.func 198) #[] #[.pointer (some ⟨w.heap.size,0,none⟩),.pointer (some ⟨B6 + 1,0,none⟩),.pointer (some ⟨B6 + 3,0,none⟩),.pointer (some ⟨B6,0,none⟩)]) ∧ w9.cell? ⟨B14 + 1,2,none⟩ = some (.int .i64 1)) := Lib.hid (fun w9 k9 => by
       have h := WY.out.keeps k9 (by simp;omega)
       obtain ⟨e0,e1,e2,-⟩ := h.three
       exact ⟨e0,e1,e2⟩)
      obtain ⟨L1,hL1⟩ : ∃ D : Int,((k1 + 1 : Nat) : Int) = D := ⟨_,rfl⟩
      rw [hL1]
      have hLne : (L1 != 0) = true := by simp;omega
      have hL2 : L1 - 1 = (k1 : Int) := by omega
      obtain ⟨L3,hL3⟩ : ∃ D : Int,(k1 : Int) = D := ⟨_,rfl⟩
      rw [hL3] at hL2
      have hwL : wrap64 L3 = L3 := IntWalk.wrap64_in _ ⟨by omega,by omega⟩
      have HL3 := Lib.hid hL3
      have hmsr : L3.natAbs < L1.natAbs := by omega
      clear mem wy hmo hsm hmk hfb hNe hmo2 hsm2 hsN hNlen hy hY1 hL1 hL3 hyb
      go_wp2_with fail
      refine wp_region_held_drew (S := (fun w' => Keeps wr w' [B6 + 2])) (by kernel_rfl) (Keeps.refl wr [B6 + 2]).drew (fun hHeld => ?_)
      refine takeM 0 rfl (by intro w9 hSw;have q6 := H10.out w9 hSw;clear hSw;go_simp;(try with_reducible rfl)) ?_
      try simp only [Act.put,stA,stZ,stS]
      refine takeM 1 rfl (by intro w9 hSw;have q6 := H10.out w9 hSw;clear hSw;go_simp;(try with_reducible rfl)) ?_
      try simp only [Act.put,stA,stZ,stS]
      refine takeM 2 rfl (by intro w9 hSw;clear hSw;go_simp;(try with_reducible rfl)) ?_
      try simp only [Act.put,stA,stZ,stS]
      refine takeM 3 rfl (by intro w9 hSw;obtain ⟨r0,r1,r2⟩ := HWY.out w9 hSw;clear hSw;go_simp;(try with_reducible rfl)) ?_
      try simp only [Act.put,stA,stZ,stS]
      refine takeM 4 rfl (by intro w9 hSw;clear hSw;go_simp;(try with_reducible rfl)) ?_
      try simp only [Act.put,stA,stZ,stS]
      refine takeM 5 rfl (by intro w9 hSw;obtain ⟨r0,r1,r2⟩ := HWY.out w9 hSw;clear hSw;go_simp;(try with_reducible rfl)) ?_
      try simp only [Act.put,stA,stZ,stS]
      refine takeM 9 rfl (by intro w9 hSw;clear hSw;go_simp;(try with_reducible rfl)) ?_
      try simp only [Act.put,stA,stZ,stS]
      refine takeM 10 rfl (by intro w9 hSw;obtain ⟨r0,r1,r2⟩ := HWY.out w9 hSw;clear hSw;go_simp;(try with_reducible rfl)) ?_
      try simp only [Act.put,stA,stZ,stS]
      refine callL (i := 6) rfl (by kernel_rfl) (fun Kont hK => ?_)
      go_simp
      refine (HFUR.out _ (Keeps.refl wr []).drew).mono ?_
      rintro e w3 ⟨rfl,k3⟩
      have m3 := (MM.out.keeps (Keeps.refl wr []).drew (by simp)).keeps k3 (by simp)
      have cb := m3.row.at HYB.out
      have fb := m3.row.frozen b
      have M3 := Lib.hid m3
      have W3 := Lib.hid ((WY.out.keeps (Keeps.refl wr []).drew (by simp)).keeps k3 (by simp))
      have K3 := Lib.hid ((Keeps.refl wr []).drew.then k3)
      have hl3 := m3.row.lt
      clear m3 k3
      go_wp2_with fail
      refine hK.out _ _ ?_ (fun hHeld => ?_)
      ·exact K3.out.mono (by simp)
      clear hK Kont
      refine takeM 7 rfl (by intro w9 hSw;clear hSw;go_simp;(try with_reducible rfl)) ?_
      try simp only [Act.put,stA,stZ,stS]
      refine callL (i := 8) rfl (by kernel_rfl) (fun Kont hK => ?_)
      go_simp
      refine hK.out _ _ ?_ (fun hHeld => ?_)
      ·exact K3.out.mono (by simp)
      clear hK Kont
      refine takeM 11 rfl (by intro w9 hSw;clear hSw;go_simp;(try with_reducible rfl)) ?_
      try simp only [Act.put,stA,stZ,stS]
      refine takeM 12 rfl (by intro w9 hSw;clear hSw;go_simp;(try with_reducible rfl)) ?_
      try simp only [Act.put,stA,stZ,stS]
      refine callL (i := 13) rfl (by kernel_rfl) (fun Kont hK => ?_)
      go_simp
      have kset : Keeps w3 (w3.setCell ⟨B6 + 2,b,none⟩ (.int .i64 Y1)) [B6 + 2] := (Keeps.refl w3 _).setCell (.inr (by simp)) _
      refine hK.out _ _ ?_ (fun hHeld => ?_)
      ·exact (K3.out.mono (S' := [B6 + 2]) (by simp)).trans kset (fun j hj _ => hj)
      clear hK Kont
      refine wpAnyH_done (by kernel_rfl) ?_ _
      have m4 := (M3.out.set b Y1).cast HNN.out
      have wy4 := W3.out.keeps kset (by simp;omega)
      generalize (w3.setCell ⟨B6 + 2,b,none⟩ (.int .i64 Y1)) = w4 at *
      have d2 := wy4.cell 2
      simp at d2
      have M4 := Lib.hid m4
      have W4 := Lib.hid wy4
      clear m4 wy4 kset cb fb hHeld
      go_wp2_with fail
      go_roundw
      case rel => exact ⟨k1,_,by rw [HL3.out];first | rfl | rw [hwL],by omega,HMO2,HSM2,HMK2,M4.out,W4.out⟩
      case measure => first | simpa [intOf] using hmsr | (rw [hwL];simpa [intOf] using hmsr)
     ·obtain rfl : k = 0 := by omega
      have HMD : Hid (N = mendN C S T) := hmk
      have HMO3 := hmo
      have hmd := hmo.out
      have mem2 := mem
      rw [HMD.out] at hmd mem2
      obtain ⟨MD,hMD⟩ : ∃ M,mendN C S T = M := ⟨_,rfl⟩
      rw [hMD] at hmd mem2
      have HML := Lib.hid hmd.len
      have HNFE : Hid (NF = (markN C MD S T).take us) := Lib.hid (by rw [← HNFD.out,← HUSE.out];unfold normF;rw [hMD])
      have HUP := Lib.hid (usedN_pos (C := C) (by have := HU.out;omega))
      obtain ⟨c2,-⟩ := mem2.c2.one
      have HM3 := Lib.hid (mem2.cast (show MD = (markN C MD S T).take 0 ++ MD.drop 0 by simp))
      rw [show ((0 : Nat) : Int) = (0 : Int) by simp]
      clear mem mem2 wy hmo hsm hmk HMD HMO3 hmd hMD hk5 hBsz MM WY
      go_wp2_with fail
      go_loopw [7,102] (fun s7 s102 wr => ∃ (j : Nat) (Z : Int),j ≤ i ∧ s102 = .int .i64 (j : Int) ∧ s7 = .int .i64 Z ∧ Hid (Z = if usedN C j = 0 then U else (usedN C j : Int)) ∧ 0 ≤ Z ∧ Z ≤ 1000 ∧ NMem w wr w.heap.size B6 i (.slice A0 i cp) C ((markN C MD S T).take j ++ MD.drop j) S T) (fun _ s102 _ => i - (intOf s102).toNat)
      case atStart => exact ⟨0,U,Nat.zero_le _,rfl,rfl,Lib.hid (by simp [usedN]),by omega,by omega,HM3.out⟩
      case round =>
       clear HM3 c2
       obtain ⟨j,Z,hji,rfl,rfl,hZ,hZ0,hZ1,mem⟩ := hrel
       have MM := Lib.hid mem
       have hB65 := mem.size
       obtain ⟨d10,-⟩ := mem.c10.one
       obtain ⟨d9,-⟩ := mem.c9.one
       obtain ⟨d6,-⟩ := mem.c6.one
       by_cases hlt : j < i
       ·have hjI : (j : Int) < (i : Int) := by omega
        obtain ⟨x,hx⟩ : ∃ x,C[j]? = some x := ⟨_,List.getElem?_eq_getElem (by have := HN.out;omega)⟩
        have hxC := HCM.out x (List.mem_of_getElem? hx)
        have hxg : C.getD j 0 = x := by rw [List.getD_eq_getElem?_getD,hx];rfl
        have hxB : x ≤ 1099511627776 := by
         have := HCB.out j
         rw [hxg] at this
         exact this
        obtain ⟨bb,o,he,hbb,hcx⟩ := mem.rd.at hx
        subst he
        have hcap := mem.rd.cap
        have hML := HML.out
        have HSTAY := Lib.hid (fun hc => mem.cast (mark_stay (S := S) (T := T) hx hML hc))
        have HSET := Lib.hid (fun hc => (mem.set j (-1)).cast (mark_set (S := S) (T := T) hx hML hc))
        have HUS : Hid (usedN C (j + 1) = if 0 < x then j + 1 else usedN C j) := Lib.hid (by rw [← hxg];rfl)
        obtain ⟨P,hP⟩ : ∃ D : Int,x * S = D := ⟨_,rfl⟩
        have hP0 : 0 ≤ P ∧ P ≤ 1099511627776 * 512 := by
         rw [← hP]
         exact ⟨Int.mul_nonneg hxC (by omega),Int.mul_le_mul hxB hS5 (by omega) (by decide)⟩
        rw [hP] at HSTAY HSET
        have hwP : wrap64 P = P := IntWalk.wrap64_in _ ⟨by omega,by omega⟩
        by_cases hxp : 0 < x
        ·have HZ2 : Hid ((j : Int) + 1 = if usedN C (j + 1) = 0 then U else (usedN C (j + 1) : Int)) := Lib.hid (by
          rw [HUS.out,if_pos hxp,if_neg (by omega)];omega)
         by_cases hPT : P < T
         ·have cj := mem.row.at (i := j) (x := MD.getD j 0) (by
           have hjm : j < MD.length := by have := HN.out;omega
           rw [List.getElem?_append_right (by rw [List.length_take];omega),List.length_take,markN_len,Nat.min_eq_left (by have := HN.out;omega),Nat.sub_self,List.getElem?_drop,Nat.add_zero,List.getD_eq_getElem?_getD,List.getElem?_eq_getElem hjm]
           rfl)
          have fj := mem.row.frozen j
          have hrl := mem.row.lt
          have M5 := Lib.hid (HSET.out ⟨hxp,hPT⟩)
          clear mem hx hxg HSTAY HSET hML hP0
          go_wp2_with fail
          go_roundw
          case rel => exact ⟨j + 1,(j : Int) + 1,by omega,by go_num,by first | rfl | go_num,HZ2,by omega,by omega,M5.out⟩
          case measure => clear hwP;simp [intOf];omega
         ·have hPT' : decide (P < T) = false := decide_eq_false hPT
          have M5 := Lib.hid (HSTAY.out (fun h => hPT h.2))
          clear mem hx hxg HSTAY HSET hML hP0
          go_wp2_with fail
          go_roundw
          case rel => exact ⟨j + 1,(j : Int) + 1,by omega,by go_num,by first | rfl | go_num,HZ2,by omega,by omega,M5.out⟩
          case measure => clear hwP;simp [intOf];omega
        ·have hxp' : decide (0 < x) = false := decide_eq_false hxp
         have HZ2 : Hid (Z = if usedN C (j + 1) = 0 then U else (usedN C (j + 1) : Int)) := Lib.hid (by
          rw [HUS.out,if_neg hxp];exact hZ.out)
         have M5 := Lib.hid (HSTAY.out (fun h => hxp h.1))
         clear mem hx hxg HSTAY HSET hML hP0 hZ
         go_wp2_with fail
         go_roundw
         case rel => exact ⟨j + 1,Z,by omega,by go_num,rfl,HZ2,by omega,by omega,M5.out⟩
         case measure => clear hwP;simp [intOf];omega
       ·obtain rfl : j = i := by omega
        have hii2 : decide ((j : Int) < (j : Int)) = false := by simp
        have hZu : Z = (usedN C C.length : Int) := by
         have h1 := hZ.out
         rw [HN.out,if_neg (by have := HUP.out;omega)] at h1
         exact h1
        have hul := usedN_le C C.length
        have hmem := mem.cast (show (markN C MD S T).take j ++ MD.drop j = markN C MD S T by
         rw [List.take_of_length_le (by rw [markN_len,HN.out];exact Nat.le_refl _),List.drop_of_length_le (by have := HML.out;have := HN.out;omega),List.append_nil])
        have hus := HUSE.out
        rw [hus] at hZu hul
        subst hZu
        have husj : us ≤ j := by have := HN.out;omega
        have c4 := hmem.c4
        have e0 := c4.cell 0
        have e1 := c4.cell 1
        have g0 := c4.frozen 0
        have g1 := c4.frozen 1
        simp at e0 e1
        have h4l := c4.lt
        have HME := Lib.hid hmem
        clear mem hZ hmem hus hul c4 MM
        go_wp2_with fail
        have b9 : Blk ((wr.setCell ⟨w.heap.size + 1,0,none⟩ (.int .i64 (log : Int))).setCell ⟨w.heap.size + 1,1,none⟩ (.slice (some ⟨B6 + 2,0,none⟩) us j)) (w.heap.size + 1) #[.int .i64 (log : Int),.slice (some ⟨B6 + 2,0,none⟩) us j] 27 := by
         have := (HME.out.c4.set 0 (.int .i64 (log : Int))).set 1 (.slice (some ⟨B6 + 2,0,none⟩) us j)
         simpa using this
        have kset : Keeps wr ((wr.setCell ⟨w.heap.size + 1,0,none⟩ (.int .i64 (log : Int))).setCell ⟨w.heap.size + 1,1,none⟩ (.slice (some ⟨B6 + 2,0,none⟩) us j)) [w.heap.size + 1] := ((Keeps.refl wr _).setCell (.inr (by simp)) _).setCell (.inr (by simp)) _
        refine bodyPost_ret (v := .tuple #[.agg #[.int .i64 (log : Int),.slice (some ⟨B6 + 2,0,none⟩) us j],.int .i64 0]) (res_cell_tmp rfl rfl rfl (loadr_tbl b9)) rfl ⟨_,_,rfl,?_,?_⟩
        ·have hlt6 := HME.out.lt
         have hr := (HME.out.row.reads).piece (p := 0) (q := us) (by omega) j (by omega)
         rw [HNFE.out]
         have hr2 := hr.keepsS kset (fun ad m c he _ hm => by cases he;have := List.mem_singleton.1 hm;simp only at this;omega)
         simpa using hr2
        ·exact HME.out.kk.trans kset (fun j hj hl => by have := List.mem_singleton.1 hj;omega)
   ·obtain ⟨kx,hkx⟩ : ∃ kx : Nat,X = -(kx : Int) := ⟨(-X).toNat,by omega⟩
    subst hkx
    have hupI : -(kx : Int) < 0 := by omega
    have hupN : 0 < kx := by omega
    have HMK : Hid (downK C S T kx (initN C S T) = mendN C S T) := Lib.hid (by rw [hmend,if_neg (by omega)];congr 1;omega)
    have HSM : Hid (sumZ (initN C S T) = S + (kx : Int)) := Lib.hid (by omega)
    have HIN := Lib.hid hin0
    have hkx5 : kx ≤ 256 := by omega
    have w15 := Blk.new (wr.alloc (.cells #[(.func (.func 198) #[] #[.pointer (some ⟨w.heap.size,0,none⟩),.pointer (some ⟨B6 + 1,0,none⟩),.pointer (some ⟨B6 + 3,0,none⟩),.pointer (some ⟨B6,0,none⟩)])] 104)) #[(.func (.func 199) #[] #[.pointer (some ⟨w.heap.size,0,none⟩)]),(.func (.func 198) #[] #[.pointer (some ⟨w.heap.size,0,none⟩),.pointer (some ⟨B6 + 1,0,none⟩),.pointer (some ⟨B6 + 3,0,none⟩),.pointer (some ⟨B6,0,none⟩)]),.int .i64 1] 241
    simp only [World.size_alloc] at w15
    rw [hB14] at w15
    have d0 := w15.cell 0
    have d1 := w15.cell 1
    have d2 := w15.cell 2
    have g0 := w15.frozen 0
    have g1 := w15.frozen 1
    have g2 := w15.frozen 2
    clear hX mem mem1 hXS hmend hlenI hin0 hup
    go_wp2_with fail
    have q14 := (Blk.new wr #[(.func (.func 198) #[] #[.pointer (some ⟨w.heap.size,0,none⟩),.pointer (some ⟨B6 + 1,0,none⟩),.pointer (some ⟨B6 + 3,0,none⟩),.pointer (some ⟨B6,0,none⟩)])] 104).alloc (.cells #[(.func (.func 200) #[] #[.pointer (some ⟨B6 + 3,0,none⟩)]),(.func (.func 201) #[] #[.pointer (some ⟨B14,0,none⟩)]),.int .i64 (-1)] 241)
    have q15 := Blk.new (wr.alloc (.cells #[(.func (.func 198) #[] #[.pointer (some ⟨w.heap.size,0,none⟩),.pointer (some ⟨B6 + 1,0,none⟩),.pointer (some ⟨B6 + 3,0,none⟩),.pointer (some ⟨B6,0,none⟩)])] 104)) #[(.func (.func 200) #[] #[.pointer (some ⟨B6 + 3,0,none⟩)]),(.func (.func 201) #[] #[.pointer (some ⟨B14,0,none⟩)]),.int .i64 (-1)] 241
    have m15 := M1.out.keeps (((Keeps.refl wr []).alloc (.cells #[(.func (.func 198) #[] #[.pointer (some ⟨w.heap.size,0,none⟩),.pointer (some ⟨B6 + 1,0,none⟩),.pointer (some ⟨B6 + 3,0,none⟩),.pointer (some ⟨B6,0,none⟩)])] 104)).alloc (.cells #[(.func (.func 200) #[] #[.pointer (some ⟨B6 + 3,0,none⟩)]),(.func (.func 201) #[] #[.pointer (some ⟨B14,0,none⟩)]),.int .i64 (-1)] 241)) (by simp)
    simp only [World.size_alloc] at q15
    rw [hB14] at q14 q15
    have hBB : B6 + 4 ≤ B14 := by omega
    generalize ((wr.alloc (.cells #[(.func (.func 198) #[] #[.pointer (some ⟨w.heap.size,0,none⟩),.pointer (some ⟨B6 + 1,0,none⟩),.pointer (some ⟨B6 + 3,0,none⟩),.pointer (some ⟨B6,0,none⟩)])] 104)).alloc (.cells #[(.func (.func 200) #[] #[.pointer (some ⟨B6 + 3,0,none⟩)]),(.func (.func 201) #[] #[.pointer (some ⟨B14,0,none⟩)]),.int .i64 (-1)] 241)) = W2 at *
    have HM2 := Lib.hid (show _ ∧ _ ∧ _ from ⟨m15,q15,q14⟩)
    clear m15 q14 q15 M1 c2 hB14 w15 d0 d1 d2 g0 g1 g2
    generalize (Value.agg #[(.func (.func 200) #[] #[.pointer (some ⟨B6 + 3,0,none⟩)]),(.func (.func 201) #[] #[.pointer (some ⟨B14,0,none⟩)]),.int .i64 (-1)]) = v80
    go_loopw [11] (fun s11 wr => ∃ (k : Nat) (N : List Int),s11 = .int .i64 (-(k : Int)) ∧ k ≤ 512 ∧ Hid (MendOk C N S T) ∧ Hid (sumZ N = S + (k : Int)) ∧ Hid (downK C S T k N = mendN C S T) ∧ NMem w wr w.heap.size B6 i (.slice A0 i cp) C N S T ∧ Blk wr (B14 + 1) #[(.func (.func 200) #[] #[.pointer (some ⟨B6 + 3,0,none⟩)]),(.func (.func 201) #[] #[.pointer (some ⟨B14,0,none⟩)]),.int .i64 (-1)] 241 ∧ Blk wr B14 #[(.func (.func 198) #[] #[.pointer (some ⟨w.heap.size,0,none⟩),.pointer (some ⟨B6 + 1,0,none⟩),.pointer (some ⟨B6 + 3,0,none⟩),.pointer (some ⟨B6,0,none⟩)])] 104) (fun s11 _ => (intOf s11).natAbs)
    case atStart => exact ⟨kx,_,rfl,by omega,HIN,HSM,HMK,HM2.out.1,HM2.out.2.1,HM2.out.2.2⟩
    case round =>
     clear HM2
     obtain ⟨k,N,rfl,hk5,hmo,hsm,hmk,mem,wy,b14⟩ := hrel
     have MM := Lib.hid mem
     have WY := Lib.hid wy
     have B14F := Lib.hid b14
     have hBsz := mem.size
     by_cases hk0 : 0 < k
     ·obtain ⟨k1,rfl⟩ : ∃ k1,k = k1 + 1 := ⟨k - 1,by omega⟩
      obtain ⟨b,hfb,hbl,hNe,hmo2,hsm2⟩ := down_ok hmo.out HNF.out (by have := HU.out;omega) (by have := hsm.out;omega)
      have hbi : b < i := by have := HN.out;omega
      have HFB : Hid (furF (fun j => decide (1 < N.getD j 0)) (fun j => - aboveF C N S T j) i = some b) := Lib.hid (by rw [HN.out];exact hfb)
      have HNB := Lib.hid (fun j => getD_le_sum (hmo.out.nonneg HNF.out) j)
      have hsN : sumZ N ≤ 1024 := by have := hsm.out;omega
      have HFUR := Lib.hid (fun W (kw : Keeps wr W []) => nfur_down B14 (B6 + 3) i i (some ⟨B6 + 2,0,none⟩) (fun j => decide (1 < N.getD j 0)) (fun j => - aboveF C N S T j) W (by omega)
       (fun j W' (kj : Keeps W W' []) hj => by
        have mm := (MM.out.keeps kw (by simp)).keeps kj (by simp)
        exact nz3_any (B6 + 3) (B6 + 2) j i i N W' mm.c10 mm.row hj)
       (fun j W' (kj : Keeps W W' []) hj => by
        have mm := (MM.out.keeps kw (by simp)).keeps kj (by simp)
        have b14 := (B14F.out.keeps kw (by simp)).keeps kj (by simp)
        exact nz4_any B14 w.heap.size (B6 + 1) (B6 + 3) B6 (B6 + 2) j i i (.slice A0 i cp) C N S T W' b14 mm.c2 mm.rd mm.c9 mm.c10 mm.row mm.c6 hj HN.out.symm ⟨HNF.out j (by have := HN.out;omega),HCB.out j⟩ ⟨by omega,hS5⟩ ⟨(HNB.out j).1,by have := (HNB.out j).2;omega⟩ ⟨by omega,hT⟩))
      rw [HFB.out] at HFUR
      simp only at HFUR
      have HNN : Hid (N.set b (N.getD b 0 - 1) = downN C N S T) := Lib.hid hNe.symm
      have HSM2 : Hid (sumZ (downN C N S T) = S + (k1 : Int)) := Lib.hid (by rw [hsm2,hsm.out];omega)
      have HMO2 := Lib.hid hmo2
      have HMK2 : Hid (downK C S T k1 (downN C N S T) = mendN C S T) := hmk
      have hNlen := hmo.out.len
      have HYB : Hid (N[b]? = some (N.getD b 0)) := Lib.hid (by rw [List.getD_eq_getElem?_getD,List.getElem?_eq_getElem (by omega)];rfl)
      have hyb := HNB.out b
      obtain ⟨y,hy⟩ : ∃ y,N.getD b 0 = y := ⟨_,rfl⟩
      rw [hy] at HYB HNN hyb
      obtain ⟨Y1,hY1⟩ : ∃ D : Int,y - 1 = D := ⟨_,rfl⟩
      rw [hY1] at HNN
      have hY2 : y + (-1) = Y1 := by omega
      have hwY : IntKind.i64.wrap Y1 = Y1 := IntWalk.i64_in _ ⟨by omega,by omega⟩
      have hbI : (b : Int) < (i : Int) := by omega
      have H10 : Hid (∀ w9,Keeps wr w9 [B6 + 2] → w9.cell? ⟨B6 + 3,0,none⟩ = some (.slice (some ⟨B6 + 2,0,none⟩) i i)) := Lib.hid (fun w9 k9 => (MM.out.c10.keeps k9 (by simp)).one.1)
      have HWY : Hid (∀ w9,Keeps wr w9 [B6 + 2] → w9.cell? ⟨B14 + 1,0,none⟩ = some (.func (.func 200) #[] #[.pointer (some ⟨B6 + 3,0,none⟩)]) ∧ w9.cell? ⟨B14 + 1,1,none⟩ = some (.func (.func 201) #[] #[.pointer (some ⟨B14,0,none⟩)]) ∧ w9.cell? ⟨B14 + 1,2,none⟩ = some (.int .i64 (-1))) := Lib.hid (fun w9 k9 => by
       have h := WY.out.keeps k9 (by simp;omega)
       obtain ⟨e0,e1,e2,-⟩ := h.three
       exact ⟨e0,e1,e2⟩)
      obtain ⟨L1,hL1⟩ : ∃ D : Int,-((k1 + 1 : Nat) : Int) = D := ⟨_,rfl⟩
      rw [hL1]
      have hLne : (L1 != 0) = true := by simp;omega
      have hL2 : L1 - (-1) = -(k1 : Int) := by omega
      obtain ⟨L3,hL3⟩ : ∃ D : Int,-(k1 : Int) = D := ⟨_,rfl⟩
      rw [hL3] at hL2
      have hwL : wrap64 L3 = L3 := IntWalk.wrap64_in _ ⟨by omega,by omega⟩
      have HL3 := Lib.hid hL3
      have hmsr : L3.natAbs < L1.natAbs := by omega
      clear mem wy b14 hmo hsm hmk hfb hNe hmo2 hsm2 hsN hNlen hy hY1 hL1 hL3 hyb
      go_wp2_with fail
      refine wp_region_held_drew (S := (fun w' => Keeps wr w' [B6 + 2])) (by kernel_rfl) (Keeps.refl wr [B6 + 2]).drew (fun hHeld => ?_)
      refine takeM 0 rfl (by intro w9 hSw;have q6 := H10.out w9 hSw;clear hSw;go_simp;(try with_reducible rfl)) ?_
      try simp only [Act.put,stA,stZ,stS]
      refine takeM 1 rfl (by intro w9 hSw;have q6 := H10.out w9 hSw;clear hSw;go_simp;(try with_reducible rfl)) ?_
      try simp only [Act.put,stA,stZ,stS]
      refine takeM 2 rfl (by intro w9 hSw;clear hSw;go_simp;(try with_reducible rfl)) ?_
      try simp only [Act.put,stA,stZ,stS]
      refine takeM 3 rfl (by intro w9 hSw;obtain ⟨r0,r1,r2⟩ := HWY.out w9 hSw;clear hSw;go_simp;(try with_reducible rfl)) ?_
      try simp only [Act.put,stA,stZ,stS]
      refine takeM 4 rfl (by intro w9 hSw;clear hSw;go_simp;(try with_reducible rfl)) ?_
      try simp only [Act.put,stA,stZ,stS]
      refine takeM 5 rfl (by intro w9 hSw;obtain ⟨r0,r1,r2⟩ := HWY.out w9 hSw;clear hSw;go_simp;(try with_reducible rfl)) ?_
      try simp only [Act.put,stA,stZ,stS]
      refine takeM 9 rfl (by intro w9 hSw;clear hSw;go_simp;(try with_reducible rfl)) ?_
      try simp only [Act.put,stA,stZ,stS]
      refine takeM 10 rfl (by intro w9 hSw;obtain ⟨r0,r1,r2⟩ := HWY.out w9 hSw;clear hSw;go_simp;(try with_reducible rfl)) ?_
      try simp only [Act.put,stA,stZ,stS]
      refine callL (i := 6) rfl (by kernel_rfl) (fun Kont hK => ?_)
      go_simp
      refine (HFUR.out _ (Keeps.refl wr []).drew).mono ?_
      rintro e w3 ⟨rfl,k3⟩
      have m3 := (MM.out.keeps (Keeps.refl wr []).drew (by simp)).keeps k3 (by simp)
      have cb := m3.row.at HYB.out
      have fb := m3.row.frozen b
      have M3 := Lib.hid m3
      have W3 := Lib.hid ((WY.out.keeps (Keeps.refl wr []).drew (by simp)).keeps k3 (by simp))
      have K3 := Lib.hid ((Keeps.refl wr []).drew.then k3)
      have hl3 := m3.row.lt
      clear m3 k3
      go_wp2_with fail
      refine hK.out _ _ ?_ (fun hHeld => ?_)
      ·exact K3.out.mono (by simp)
      clear hK Kont
      refine takeM 7 rfl (by intro w9 hSw;clear hSw;go_simp;(try with_reducible rfl)) ?_
      try simp only [Act.put,stA,stZ,stS]
      refine callL (i := 8) rfl (by kernel_rfl) (fun Kont hK => ?_)
      go_simp
      refine hK.out _ _ ?_ (fun hHeld => ?_)
      ·exact K3.out.mono (by simp)
      clear hK Kont
      refine takeM 11 rfl (by intro w9 hSw;clear hSw;go_simp;(try with_reducible rfl)) ?_
      try simp only [Act.put,stA,stZ,stS]
      refine takeM 12 rfl (by intro w9 hSw;clear hSw;go_simp;(try with_reducible rfl)) ?_
      try simp only [Act.put,stA,stZ,stS]
      refine callL (i := 13) rfl (by kernel_rfl) (fun Kont hK => ?_)
      go_simp
      have kset : Keeps w3 (w3.setCell ⟨B6 + 2,b,none⟩ (.int .i64 Y1)) [B6 + 2] := (Keeps.refl w3 _).setCell (.inr (by simp)) _
      refine hK.out _ _ ?_ (fun hHeld => ?_)
      ·exact (K3.out.mono (S' := [B6 + 2]) (by simp)).trans kset (fun j hj _ => hj)
      clear hK Kont
      refine wpAnyH_done (by kernel_rfl) ?_ _
      have m4 := (M3.out.set b Y1).cast HNN.out
      have wy4 := W3.out.keeps kset (by simp;omega)
      generalize (w3.setCell ⟨B6 + 2,b,none⟩ (.int .i64 Y1)) = w4 at *
      have d2 := wy4.cell 2
      simp at d2
      have M4 := Lib.hid m4
      have W4 := Lib.hid wy4
      have KS := Lib.hid kset
      clear m4 wy4 kset cb fb hHeld
      go_wp2_with fail
      go_roundw
      case rel => exact ⟨k1,_,by rw [HL3.out];first | rfl | rw [hwL],by omega,HMO2,HSM2,HMK2,M4.out,W4.out,(B14F.out.keeps K3.out (by simp)).keeps KS.out (by simp;omega)⟩
      case measure => first | simpa [intOf] using hmsr | (rw [hwL];simpa [intOf] using hmsr)
     ·obtain rfl : k = 0 := by omega
      have HMD : Hid (N = mendN C S T) := hmk
      have HMO3 := hmo
      have hmd := hmo.out
      have mem2 := mem
      rw [HMD.out] at hmd mem2
      obtain ⟨MD,hMD⟩ : ∃ M,mendN C S T = M := ⟨_,rfl⟩
      rw [hMD] at hmd mem2
      have HML := Lib.hid hmd.len
      have HNFE : Hid (NF = (markN C MD S T).take us) := Lib.hid (by rw [← HNFD.out,← HUSE.out];unfold normF;rw [hMD])
      have HUP := Lib.hid (usedN_pos (C := C) (by have := HU.out;omega))
      obtain ⟨c2,-⟩ := mem2.c2.one
      have HM3 := Lib.hid (mem2.cast (show MD = (markN C MD S T).take 0 ++ MD.drop 0 by simp))
      rw [show (-((0 : Nat) : Int)) = (0 : Int) by simp]
      clear mem mem2 wy b14 hmo hsm hmk HMD HMO3 hmd hMD hk5 hBsz MM WY B14F
      go_wp2_with fail
      go_loopw [7,102] (fun s7 s102 wr => ∃ (j : Nat) (Z : Int),j ≤ i ∧ s102 = .int .i64 (j : Int) ∧ s7 = .int .i64 Z ∧ Hid (Z = if usedN C j = 0 then U else (usedN C j : Int)) ∧ 0 ≤ Z ∧ Z ≤ 1000 ∧ NMem w wr w.heap.size B6 i (.slice A0 i cp) C ((markN C MD S T).take j ++ MD.drop j) S T) (fun _ s102 _ => i - (intOf s102).toNat)
      case atStart => exact ⟨0,U,Nat.zero_le _,rfl,rfl,Lib.hid (by simp [usedN]),by omega,by omega,HM3.out⟩
      case round =>
       clear HM3 c2
       obtain ⟨j,Z,hji,rfl,rfl,hZ,hZ0,hZ1,mem⟩ := hrel
       have MM := Lib.hid mem
       have hB65 := mem.size
       obtain ⟨d10,-⟩ := mem.c10.one
       obtain ⟨d9,-⟩ := mem.c9.one
       obtain ⟨d6,-⟩ := mem.c6.one
       by_cases hlt : j < i
       ·have hjI : (j : Int) < (i : Int) := by omega
        obtain ⟨x,hx⟩ : ∃ x,C[j]? = some x := ⟨_,List.getElem?_eq_getElem (by have := HN.out;omega)⟩
        have hxC := HCM.out x (List.mem_of_getElem? hx)
        have hxg : C.getD j 0 = x := by rw [List.getD_eq_getElem?_getD,hx];rfl
        have hxB : x ≤ 1099511627776 := by
         have := HCB.out j
         rw [hxg] at this
         exact this
        obtain ⟨bb,o,he,hbb,hcx⟩ := mem.rd.at hx
        subst he
        have hcap := mem.rd.cap
        have hML := HML.out
        have HSTAY := Lib.hid (fun hc => mem.cast (mark_stay (S := S) (T := T) hx hML hc))
        have HSET := Lib.hid (fun hc => (mem.set j (-1)).cast (mark_set (S := S) (T := T) hx hML hc))
        have HUS : Hid (usedN C (j + 1) = if 0 < x then j + 1 else usedN C j) := Lib.hid (by rw [← hxg];rfl)
        obtain ⟨P,hP⟩ : ∃ D : Int,x * S = D := ⟨_,rfl⟩
        have hP0 : 0 ≤ P ∧ P ≤ 1099511627776 * 512 := by
         rw [← hP]
         exact ⟨Int.mul_nonneg hxC (by omega),Int.mul_le_mul hxB hS5 (by omega) (by decide)⟩
        rw [hP] at HSTAY HSET
        have hwP : wrap64 P = P := IntWalk.wrap64_in _ ⟨by omega,by omega⟩
        by_cases hxp : 0 < x
        ·have HZ2 : Hid ((j : Int) + 1 = if usedN C (j + 1) = 0 then U else (usedN C (j + 1) : Int)) := Lib.hid (by
          rw [HUS.out,if_pos hxp,if_neg (by omega)];omega)
         by_cases hPT : P < T
         ·have cj := mem.row.at (i := j) (x := MD.getD j 0) (by
           have hjm : j < MD.length := by have := HN.out;omega
           rw [List.getElem?_append_right (by rw [List.length_take];omega),List.length_take,markN_len,Nat.min_eq_left (by have := HN.out;omega),Nat.sub_self,List.getElem?_drop,Nat.add_zero,List.getD_eq_getElem?_getD,List.getElem?_eq_getElem hjm]
           rfl)
          have fj := mem.row.frozen j
          have hrl := mem.row.lt
          have M5 := Lib.hid (HSET.out ⟨hxp,hPT⟩)
          clear mem hx hxg HSTAY HSET hML hP0
          go_wp2_with fail
          go_roundw
          case rel => exact ⟨j + 1,(j : Int) + 1,by omega,by go_num,by first | rfl | go_num,HZ2,by omega,by omega,M5.out⟩
          case measure => clear hwP;simp [intOf];omega
         ·have hPT' : decide (P < T) = false := decide_eq_false hPT
          have M5 := Lib.hid (HSTAY.out (fun h => hPT h.2))
          clear mem hx hxg HSTAY HSET hML hP0
          go_wp2_with fail
          go_roundw
          case rel => exact ⟨j + 1,(j : Int) + 1,by omega,by go_num,by first | rfl | go_num,HZ2,by omega,by omega,M5.out⟩
          case measure => clear hwP;simp [intOf];omega
        ·have hxp' : decide (0 < x) = false := decide_eq_false hxp
         have HZ2 : Hid (Z = if usedN C (j + 1) = 0 then U else (usedN C (j + 1) : Int)) := Lib.hid (by
          rw [HUS.out,if_neg hxp];exact hZ.out)
         have M5 := Lib.hid (HSTAY.out (fun h => hxp h.1))
         clear mem hx hxg HSTAY HSET hML hP0 hZ
         go_wp2_with fail
         go_roundw
         case rel => exact ⟨j + 1,Z,by omega,by go_num,rfl,HZ2,by omega,by omega,M5.out⟩
         case measure => clear hwP;simp [intOf];omega
       ·obtain rfl : j = i := by omega
        have hii2 : decide ((j : Int) < (j : Int)) = false := by simp
        have hZu : Z = (usedN C C.length : Int) := by
         have h1 := hZ.out
         rw [HN.out,if_neg (by have := HUP.out;omega)] at h1
         exact h1
        have hul := usedN_le C C.length
        have hmem := mem.cast (show (markN C MD S T).take j ++ MD.drop j = markN C MD S T by
         rw [List.take_of_length_le (by rw [markN_len,HN.out];exact Nat.le_refl _),List.drop_of_length_le (by have := HML.out;have := HN.out;omega),List.append_nil])
        have hus := HUSE.out
        rw [hus] at hZu hul
        subst hZu
        have husj : us ≤ j := by have := HN.out;omega
        have c4 := hmem.c4
        have e0 := c4.cell 0
        have e1 := c4.cell 1
        have g0 := c4.frozen 0
        have g1 := c4.frozen 1
        simp at e0 e1
        have h4l := c4.lt
        have HME := Lib.hid hmem
        clear mem hZ hmem hus hul c4 MM
        go_wp2_with fail
        have b9 : Blk ((wr.setCell ⟨w.heap.size + 1,0,none⟩ (.int .i64 (log : Int))).setCell ⟨w.heap.size + 1,1,none⟩ (.slice (some ⟨B6 + 2,0,none⟩) us j)) (w.heap.size + 1) #[.int .i64 (log : Int),.slice (some ⟨B6 + 2,0,none⟩) us j] 27 := by
         have := (HME.out.c4.set 0 (.int .i64 (log : Int))).set 1 (.slice (some ⟨B6 + 2,0,none⟩) us j)
         simpa using this
        have kset : Keeps wr ((wr.setCell ⟨w.heap.size + 1,0,none⟩ (.int .i64 (log : Int))).setCell ⟨w.heap.size + 1,1,none⟩ (.slice (some ⟨B6 + 2,0,none⟩) us j)) [w.heap.size + 1] := ((Keeps.refl wr _).setCell (.inr (by simp)) _).setCell (.inr (by simp)) _
        refine bodyPost_ret (v := .tuple #[.agg #[.int .i64 (log : Int),.slice (some ⟨B6 + 2,0,none⟩) us j],.int .i64 0]) (res_cell_tmp rfl rfl rfl (loadr_tbl b9)) rfl ⟨_,_,rfl,?_,?_⟩
        ·have hlt6 := HME.out.lt
         have hr := (HME.out.row.reads).piece (p := 0) (q := us) (by omega) j (by omega)
         rw [HNFE.out]
         have hr2 := hr.keepsS kset (fun ad m c he _ hm => by cases he;have := List.mem_singleton.1 hm;simp only at this;omega)
         simpa using hr2
        ·exact HME.out.kk.trans kset (fun j hj hl => by have := List.mem_singleton.1 hj;omega)


end Go.Proofs.YtcmagccfagijlaaGreat
