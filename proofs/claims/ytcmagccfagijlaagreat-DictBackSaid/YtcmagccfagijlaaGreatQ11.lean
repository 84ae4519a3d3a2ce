/-
  Walks over package spread: Spread. (Printed by mkSp.py.)
-/
import Derived.Test.YtcmagccfagijlaaGreatQ2
import Derived.Test.YtcmagccfagijlaaGreatQ10
import Derived.Test.YtcmagccfagijlaaGreatQ6
import Derived.BigFrameIn
namespace Go.Proofs.YtcmagccfagijlaaGreat
set_option linter.unusedVariables false
set_option linter.unusedSimpArgs false
set_option linter.unusedSectionVars false
set_option maxRecDepth 100000
open Go.RowKit

attribute [local go_sem] Oper.semAt_some

def castL (l : List Nat) : List Int := l.map fun s => ((s : Nat) : Int)
theorem castL_len (l : List Nat) : (castL l).length = l.length := by simp [castL]
theorem castL_append (a b : List Nat) : castL (a ++ b) = castL a ++ castL b := by simp [castL]

structure TblOk (g : Nat) (norm : List Int) : Prop where
 g9 : g ≤ 9
 pos : 0 < norm.length
 len : norm.length ≤ 256
 low : ∀ n ∈ norm,-1 ≤ n
 sum : sumN norm = ((2 ^ g : Nat) : Int)
theorem tbl_ok {g : Int} {norm : List Int} (h : okN g norm 256 9 = true) : ∃ G : Nat,g = (G : Int) ∧ TblOk G norm := by
 have h1 := of_decide_eq_true h
 obtain ⟨a,b,c,d,e,f,s⟩ := h1
 obtain ⟨G,rfl⟩ := Int.eq_ofNat_of_zero_le a
 exact ⟨G,rfl,by omega,c,by omega,f,by rw [s];simp⟩
theorem TblOk.lens {g : Nat} {norm : List Int} (h : TblOk g norm) : (lowsL norm).length + (othersL norm).length = 2 ^ g := by
 have := places_len h.low (k := norm.length) (Nat.le_refl _)
 rw [List.take_length,h.sum] at this
 rw [← lowsK_all,← othersK_all]
 omega
theorem TblOk.part {g k : Nat} {norm : List Int} (h : TblOk g norm) (hk : k ≤ norm.length) : (lowsK norm k).length + (othersK norm k).length ≤ 2 ^ g := by
 have h1 := places_len h.low (k := k) hk
 have h2 := sumN_prefix (k := k) h.low
 rw [h.sum] at h2
 omega
theorem TblOk.size {g : Nat} {norm : List Int} (h : TblOk g norm) : 1 ≤ 2 ^ g ∧ 2 ^ g ≤ 512 :=
 ⟨Nat.two_pow_pos _,by have := Nat.pow_le_pow_right (n := 2) (by decide) h.g9;rwa [show (2 : Nat) ^ 9 = 512 by decide] at this⟩
theorem TblOk.ent {g k : Nat} {x : Int} {norm : List Int} (h : TblOk g norm) (hx : norm[k]? = some x) : -1 ≤ x ∧ x ≤ 512 := by
 have h1 := h.low x (List.mem_of_getElem? hx)
 have h2 := h.part (k := k + 1) (List.getElem?_eq_some_iff.1 hx).1
 rw [othersK_next hx,List.length_append,List.length_replicate] at h2
 have := h.size
 omega

theorem slice_rest {w0 : World} {a : Option Addr} {n c : Nat} {L : List Int} (h : RdI .i64 w0 (.slice a n c) L) (h1 : 1 ≤ n) :
  ∃ a' c',(∀ w,(Instr.slice 25 (.slice a n c) (some (.int .i64 1)) none none).run Tryz.prog w = .ok (.slice a' (n - 1) c') w) ∧ RdI .i64 w0 (.slice a' (n - 1) c') (L.drop 1) ∧ (∀ ad',a' = some ad' → ∃ ad,a = some ad ∧ ad'.block = ad.block) := by
 obtain ⟨i0,hi,hz0,hz1,hz2⟩ := info_parts Tryz.infoInt
 have hcap := h.cap
 obtain ⟨b,o,rfl,-,-⟩ := h.addr (by omega)
 have hn := h.len
 have run0 : ∀ (i : Nat) w,1 ≤ i → i ≤ n → (Instr.slice 25 (.slice (some ⟨b,o,none⟩) n c) (some (.int .i64 (i : Int))) none none).run Tryz.prog w = .ok (.slice (if i < c then some ⟨b,o + i,none⟩ else some ⟨b,o,none⟩) (n - i) (c - i)) w := by
  intro i w hi0 a1
  by_cases hic : i < c
  ·have a3 : ¬ c = i := by omega
   have a4 : ¬ i = 0 := by omega
   simp [Instr.slice,Instr.sliceBounds,Instr.sliceBound,asIntOf,run_underlying Tryz.underlying25,go_sem,sizeOf,typeInfo,hi,hz1,a1,a3,a4,hic,Addr.add]
  ·obtain rfl : i = c := by omega
   obtain rfl : i = n := by omega
   simp [Instr.slice,Instr.sliceBounds,Instr.sliceBound,asIntOf,run_underlying Tryz.underlying25,go_sem,sizeOf,typeInfo,hi,hz1]
 have run : ∀ w,(Instr.slice 25 (.slice (some ⟨b,o,none⟩) n c) (some (.int .i64 1)) none none).run Tryz.prog w = .ok (.slice (if 1 < c then some ⟨b,o + 1,none⟩ else some ⟨b,o,none⟩) (n - 1) (c - 1)) w := fun w => run0 1 w (Nat.le_refl _) h1
 refine ⟨_,_,run,?_,fun ad' he => ?_⟩
 ·by_cases he : n - 1 = 0
  ·rw [he,show L.drop 1 = [] from List.drop_eq_nil_of_le (by omega)]
   split <;> exact .zero _ _
  ·rw [if_pos (by omega)]
   have := h.piece (p := 1) (q := n - 1) (by omega) (c - 1) (by omega)
   rwa [List.take_of_length_le (by rw [List.length_drop];omega)] at this
 ·refine ⟨_,rfl,?_⟩
  split at he <;> · cases he;rfl

structure SpI (w X : World) (M S G v : Nat) (lows others : List Nat) : Prop where
 b6 : Blk X (M + 1) #[.map (some M)] 256
 mp : MapI X M (lows.length + (freeN S (S - lows.length) v).length) (hasB S lows others (freeN S (S - lows.length) v))
 ro : ∃ a c,Blk X (M + 1 + 1) #[.slice a (others.length - (freeN S (S - lows.length) v).length) c] 25 ∧ RdI .i64 X (.slice a (others.length - (freeN S (S - lows.length) v).length) c) (castL (others.drop (freeN S (S - lows.length) v).length)) ∧ ∀ ad,a = some ad → ad.block = G
 kk : Keeps w X []
theorem SpI.keeps {w X Y : World} {M S G v : Nat} {lows others : List Nat} {C : List Nat} (h : SpI w X M S G v lows others) (k : Keeps X Y C) (h0 : M ∉ C) (h1 : M + 1 ∉ C) (h2 : M + 1 + 1 ∉ C) (h3 : G ∉ C) (hC : ∀ x ∈ C,w.heap.size ≤ x) : SpI w Y M S G v lows others := by
 obtain ⟨a,c,r1,r2,r3⟩ := h.ro
 refine ⟨h.b6.keeps k h1,h.mp.keeps k h0,⟨a,c,r1.keeps k h2,r2.keepsS k (fun ad n cp e _ hm => ?_),r3⟩,h.kk.trans k (fun x hx hl => by have := hC x hx;omega)⟩
 cases e
 exact h3 (r3 _ rfl ▸ hm)

theorem keeps_of_under {N : Nat} {A B : World} (h : Below N A B) : Keeps A B ((List.range A.heap.size).filter (fun k => decide (N ≤ k))) :=
 ⟨h.os,h.tape,h.output,h.size,fun k hk hn => h.block k (by
  by_cases h0 : k < N
  ·exact h0
  ·exact absurd (List.mem_filter.2 ⟨List.mem_range.2 hk,decide_eq_true (by omega)⟩) hn)⟩
theorem under_mem {N k : Nat} {A : World} (h : k ∈ (List.range A.heap.size).filter (fun k => decide (N ≤ k))) : N ≤ k := of_decide_eq_true (List.mem_filter.1 h).2
theorem visit_next {S v : Nat} {x : Int} (h : visitL S v ++ [x] <+: visitL S S) : v < S ∧ x = ((visitN S v : Nat) : Int) := by
 have h1 := h.length_le
 rw [List.length_append,visitL_len,visitL_len,List.length_singleton] at h1
 have hv : v < S := by omega
 obtain ⟨t,ht⟩ := h
 have h2 : (visitL S S)[v]? = some x := by
  rw [← ht,List.append_assoc,List.getElem?_append_right (by rw [visitL_len];exact Nat.le_refl _),visitL_len,Nat.sub_self]
  rfl
 have h3 : (visitL S S)[v]? = some ((visitN S v : Nat) : Int) := by simp [visitL,hv]
 rw [h2] at h3
 exact ⟨hv,by simpa using h3⟩
theorem castL_getD {L : List Nat} {j : Nat} (h : j < L.length) : (castL L)[j]? = some ((L.getD j 0 : Nat) : Int) := by
 simp [castL,List.getD_eq_getElem?_getD,List.getElem?_eq_getElem h]
theorem castL_drop (L : List Nat) (j : Nat) : castL (L.drop j) = (castL L).drop j := by simp [castL]

theorem take_rep_set {L : List Int} {t S : Nat} {y : Int} (h : L[t]? = some y) (hlt : t < S) (hl : L.length = S) : (L.take t ++ List.replicate (S - t) 0).set t y = L.take (t + 1) ++ List.replicate (S - (t + 1)) 0 := by
 rw [List.set_append_right _ _ (by rw [List.length_take];omega),List.length_take,Nat.min_eq_left (by omega),Nat.sub_self]
 obtain ⟨d,hd⟩ : ∃ d,S - t = d + 1 := ⟨S - t - 1,by omega⟩
 rw [hd,List.replicate_succ,List.set_cons_zero,take_next h,List.append_assoc]
 rw [show S - (t + 1) = d by omega]
 rfl

theorem spread_bad (g : Int) (v : Value) (norm : List Int) (w : World) (hv : RdI .i64 w v norm) (hn : norm.length ≤ 1000000) (hb : ∀ x ∈ norm,-9223372036854775808 ≤ x ∧ x ≤ 9223372036854775807) (hok : okN g norm 256 9 = false) :
  Calls Tryz.prog 210 #[.agg #[.int .i64 g,v]] w fun e w' => e = .returned (.tuple #[.slice none 0 0,.int .i64 13]) ∧ Keeps w w' [] := by
 obtain ⟨A0,n,cp0,rfl,hnl,-⟩ := hv.form
 have k0 := (Keeps.refl w []).alloc (.cells #[.int .i64 g,.slice A0 n cp0] 27)
 have HC := Lib.hid (ncheck_any g 256 9 _ norm _ (hv.keeps k0) hn hb (by decide) (by decide))
 rw [hok] at HC
 simp only [Bool.false_eq_true,if_false] at HC
 clear hv hnl hok hb
 go_enter Tryz.func210,Tryz.ntmps210
 go_wp2_with (go_at_call 73;(refine HC.out.mono ?_;rintro e w1 ⟨rfl,k1⟩))
 go_ret2
 exact ⟨rfl,k0.then k1⟩

set_option maxHeartbeats 2000000 in
theorem spread_ok (g : Nat) (v : Value) (norm : List Int) (w : World) (hv : RdI .i64 w v norm) (hb : ∀ x ∈ norm,-9223372036854775808 ≤ x ∧ x ≤ 9223372036854775807) (hok : TblOk g norm) (hok' : okN (g : Int) norm 256 9 = true) :
  Calls Tryz.prog 210 #[.agg #[.int .i64 (g : Int),v]] w fun e w' => ∃ O,w.heap.size ≤ O ∧ e = .returned (.tuple #[.slice (some ⟨O,0,none⟩) (2 ^ g) (2 ^ g),.int .i64 0]) ∧ RowI w' O (2 ^ g) (2 ^ g) (castL (placesL g norm)) ∧ Keeps w w' [] := by
 have hmm := @run_makeMap Tryz.prog
 obtain ⟨i0,hi,hz0,hz1,hz2⟩ := info_parts Tryz.infoInt
 obtain ⟨A0,n,cp0,rfl,hnl,-⟩ := hv.form
 have k0 := (Keeps.refl w []).alloc (.cells #[.int .i64 (g : Int),.slice A0 n cp0] 27)
 have b0 := Blk.new w #[.int .i64 (g : Int),.slice A0 n cp0] 27
 have HC := Lib.hid (ncheck_any (g : Int) 256 9 _ norm _ (hv.keeps k0) (by have := hok.len;omega) hb (by decide) (by decide))
 rw [hok'] at HC
 simp only [if_true] at HC
 have HV := Lib.hid hv
 have HOK := Lib.hid hok
 have HN := Lib.hid hnl
 have hn256 : n ≤ 256 := by have := hok.len;omega
 obtain ⟨hS1,hS2⟩ := hok.size
 have hg9 := hok.g9
 have hTe : Hid (((2 : Int) ^ g) = ((2 ^ g : Nat) : Int)) := by show _ = _;simp
 have hS := Lib.hid (And.intro hS1 hS2)
 clear hS1 hS2
 clear hv hnl hok' hb hok
 refine calls_of_marks Tryz.func210 rfl ?_
 simp only [Tryz.ntmps210,List.size_toArray,List.length_cons,List.length_nil,Nat.reduceAdd,Nat.reduceSub,Array.replicate_succ,Array.replicate_zero,List.push_toArray,List.append_toArray,List.nil_append,List.cons_append]
 go_wp2_with (go_at_call 73;(refine HC.out.mono ?_;rintro e w1 ⟨rfl,k1⟩;have b1 := b0.keeps k1 (by simp);have kk1 := k0.then k1;have c0 := b1.cell 0;have c1 := b1.cell 1;simp at c0 c1;have hl1 := b1.lt))
 obtain ⟨S,hSe⟩ : ∃ S,2 ^ g = S := ⟨_,rfl⟩
 have hTe' := hTe.out
 have hS' := hS.out
 rw [hSe] at hTe' hS'
 rw [hTe',IntWalk.wrap64_in (S : Int) ⟨by omega,by omega⟩]
 obtain ⟨hS1,hS2⟩ := hS'
 have HSE := Lib.hid hSe
 obtain ⟨M,hM⟩ : ∃ M,w1.heap.size = M := ⟨_,rfl⟩
 have hwM : w.heap.size + 1 ≤ M := by rw [← hM];omega
 have ms0 := ((MapZ.made w1).keeps ((Keeps.refl _ []).alloc (.cells #[.map (some w1.heap.size)] 256)) (by simp)).keeps ((Keeps.refl _ []).alloc (.cells #[.slice none 0 0] 25)) (by simp)
 have b6 := (Blk.new (w1.alloc (.map #[] 0)) #[.map (some w1.heap.size)] 256).alloc (.cells #[.slice none 0 0] 25)
 have b7 := Blk.new ((w1.alloc (.map #[] 0)).alloc (.cells #[.map (some w1.heap.size)] 256)) #[.slice none 0 0] 25
 have kk2 := ((kk1.alloc (.map #[] 0)).alloc (.cells #[.map (some w1.heap.size)] 256)).alloc (.cells #[.slice none 0 0] 25)
 simp only [World.size_alloc] at b6 b7
 have hsz : (((w1.alloc (.map #[] 0)).alloc (.cells #[.map (some w1.heap.size)] 256)).alloc (.cells #[.slice none 0 0] 25)).heap.size = M + 3 := by simp;omega
 rw [hM] at ms0 b6 b7 kk2 hsz ⊢
 generalize (((w1.alloc (.map #[] 0)).alloc (.cells #[.map (some M)] 256)).alloc (.cells #[.slice none 0 0] 25)) = W0 at *
 have HM := Lib.hid hM
 clear hSe hTe hTe' hS hM c0 c1 b1 kk1 b0 k0 HC hmm k1
 rw [← hasA_nil S] at ms0
 have HSZ := Lib.hid hsz
 clear hsz
 go_loopw [27] (fun s27 wr => ∃ (k c : Nat) (a : Option Addr),k ≤ n ∧ s27 = .int .i64 k ∧ Blk wr (M + 1) #[.map (some M)] 256 ∧ MapZ wr M (lowsK norm k).length (hasA S (lowsK norm k)) ∧ Blk wr (M + 1 + 1) #[.slice a (othersK norm k).length c] 25 ∧
   wr.ownsRow (M + 3) 3 1 (.slice a (othersK norm k).length c) (othersK norm k).length ((castL (othersK norm k)).map (.int .i64)) ∧ Keeps w wr [] ∧ M + 3 ≤ wr.heap.size) (fun s27 _ => n - (intOf s27).toNat)
 case atStart => exact ⟨0,0,none,Nat.zero_le _,rfl,b6,ms0,b7,World.ownsRow_nil _ _ _ _,kk2,by rw [HSZ.out];exact Nat.le_refl _⟩
 case round =>
  clear b6 ms0 b7 kk2 HSZ
  obtain ⟨k,c,a,hk,rfl,b6,ms,b7,own,kk,hsz⟩ := hrel
  by_cases hlt : k < n
  ·obtain ⟨x,hx⟩ : ∃ x,norm[k]? = some x := ⟨_,List.getElem?_eq_getElem (by have := HN.out;omega)⟩
   obtain ⟨bb,o,rfl,hbb,hcx⟩ := HV.out.at hx
   have hcx' := (kk.cell (p := ⟨bb,o + k,none⟩) hbb (by simp)).trans hcx
   have hcap := HV.out.cap
   have hkn : (k : Int) < (n : Int) := by omega
   have hkI : (Lit.int .i64 (k : Int)).wf = true := ik_small (by omega) (by omega)
   have hp1 := HOK.out.part (k := k + 1) (by have := HN.out;omega)
   have hp0 := HOK.out.part (k := k) (by have := HN.out;omega)
   have hxe := HOK.out.ent hx
   rw [HSE.out] at hp0 hp1
   by_cases hx1 : x = -1
   ·subst hx1
    have hlo := lowsK_yes hx
    have hot := othersK_next hx
    rw [show ((-1 : Int)).toNat = 0 from rfl,List.replicate_zero,List.append_nil] at hot
    rw [hlo,List.length_append,List.length_singleton] at hp1
    have hA := hasA_snoc (s := k) (show (lowsK norm k).length < S by omega)
    rw [← hlo] at hA
    obtain ⟨m,hm⟩ : ∃ m,(lowsK norm k).length = m := ⟨_,rfl⟩
    have hm1 : (lowsK norm (k + 1)).length = m + 1 := by rw [hlo,List.length_append,hm];rfl
    rw [hm] at ms hA hp1
    obtain ⟨S1,hS1e⟩ : ∃ D : Int,(S : Int) - 1 = D := ⟨_,rfl⟩
    obtain ⟨Kq,hKq⟩ : ∃ D : Int,S1 - (m : Int) = D := ⟨_,rfl⟩
    have hw1 : wrap64 S1 = S1 := IntWalk.wrap64_in _ ⟨by omega,by omega⟩
    have hw2 : wrap64 Kq = Kq := IntWalk.wrap64_in _ ⟨by omega,by omega⟩
    have hf : hasA S (lowsK norm k) Kq = none := by
     unfold hasA
     rw [hm,if_neg (by omega)]
    obtain ⟨w2,hu1,ms2,g2⟩ := ms.update (q := Kq) (ik_small (by omega) (by omega)) (k : Int) hkI (by unfold maxLen;omega) hf
    have hln := fun ty => ms.len ty
    rw [show Kq = (S : Int) - 1 - (m : Int) by omega,← hA] at ms2
    rw [← hm1] at ms2
    have k2 : Keeps wr w2 [M] := Keeps.of_grown g2 (fun j hj => by cases hj;simp)
    have b62 := b6.keeps k2 (by simp)
    have b72 := b7.keeps k2 (by simp;omega)
    have own2 := own_old own k2 (fun x hx hm => by have := List.mem_singleton.1 hm;have := (own.lt x hx).1;omega)
    have kk2 : Keeps w w2 [] := kk.trans k2 (fun j hj hl => by have := List.mem_singleton.1 hj;omega)
    have hsz2 : M + 3 ≤ w2.heap.size := Nat.le_trans hsz k2.size
    rw [← hot] at b72 own2
    obtain ⟨d0,-⟩ := b6.one
    have B6 := Lib.hid b62
    have B7 := Lib.hid b72
    have O2 := Lib.hid own2
    have MS2 := Lib.hid ms2
    clear hx hcx b6 b7 own ms b62 b72 own2 ms2 k2 g2 hA hlo hot hm hm1 hf hxe hp0 hp1
    go_wp2_with fail
    go_loopw [43] (fun s43 wi => s43 = .int .i64 0 ∧ wi = w2) (fun _ _ => 0)
    case atStart => exact ⟨rfl,rfl⟩
    case round =>
     obtain ⟨rfl,rfl⟩ := hrel
     go_wp2_with fail
     go_roundw
     case rel => exact ⟨k + 1,c,a,by omega,by go_num,B6.out,MS2.out,B7.out,O2.out,kk2,hsz2⟩
     case measure => simp [intOf];omega
   ·have hx0 : 0 ≤ x := by omega
    obtain ⟨X,rfl⟩ := Int.eq_ofNat_of_zero_le hx0
    have hlo := lowsK_no hx hx1
    have hot := othersK_next hx
    rw [Int.toNat_natCast] at hot
    rw [hlo] at hp1
    rw [hot,List.length_append,List.length_replicate] at hp1
    have hXm : X ≤ 512 := by omega
    have hx1' : ((X : Int) == -1) = false := by simp
    have hmx : max (X : Int) 0 = (X : Int) := by omega
    obtain ⟨L0,hL0⟩ : ∃ L,othersK norm k = L := ⟨_,rfl⟩
    rw [hL0] at b7 own hot hp1
    rw [← hlo] at ms
    have B6 := Lib.hid b6
    have MS := Lib.hid ms
    have B7 := Lib.hid b7
    have OW := Lib.hid own
    have KK := Lib.hid kk
    have HOT := Lib.hid hot
    have hL0l : L0.length ≤ 512 := by omega
    have KB := Lib.hid (⟨hsz,hkn⟩ : M + 3 ≤ wr.heap.size ∧ (k : Int) < (n : Int))
    clear hx hcx b6 ms b7 own kk hlo hot hL0 hp0 hp1 hxe hx1 hx0
    go_wp2_with fail
    obtain ⟨wo,rfl⟩ : ∃ wo : World,wo = wr := ⟨_,rfl⟩
    go_loopw [43] (fun s43 wi => ∃ (j c : Nat) (a : Option Addr),j ≤ X ∧ s43 = .int .i64 j ∧ Blk wi (M + 1) #[.map (some M)] 256 ∧ MapZ wi M (lowsK norm (k + 1)).length (hasA S (lowsK norm (k + 1))) ∧ Blk wi (M + 1 + 1) #[.slice a (L0.length + j) c] 25 ∧
      wi.ownsRow (M + 3) 3 1 (.slice a (L0.length + j) c) (L0.length + j) ((castL (L0 ++ List.replicate j k)).map (.int .i64)) ∧ Keeps w wi [] ∧ M + 3 ≤ wi.heap.size) (fun s43 _ => X - (intOf s43).toNat)
    case atStart => exact ⟨0,c,a,Nat.zero_le _,rfl,B6.out,MS.out,by simpa using B7.out,by simpa using OW.out,KK.out,hsz⟩
    case round =>
     clear B6 MS B7 OW KK
     obtain ⟨j,c,a,hj,rfl,b6,ms,b7,own,kk,hszi⟩ := hrel
     by_cases hjx : j < X
     ·have hjI : (j : Int) < (X : Int) := by omega
      obtain ⟨d0,d1⟩ := b7.one
      have B6 := Lib.hid b6
      have MS := Lib.hid ms
      have OW := Lib.hid own
      have B7 := Lib.hid b7
      have HYG := Lib.hid (young own)
      clear b6 ms own b7
      obtain ⟨m,hm⟩ : ∃ m,L0.length + j = m := ⟨_,rfl⟩
      rw [hm] at d0 OW B7 HYG
      have hm2 : m ≤ 1024 := by omega
      have hm3 : L0.length + (j + 1) = m + 1 := by omega
      have HM3 := Lib.hid hm3
      clear hm hm3
      go_wp2_with (at_builtin;(refine wpList_app1I (w := wr) rfl _ _ 25 rfl (M + 3) i0 Tryz.underlying25 hi hz0 hz1 hz2 (.slice a m c) m (castL (L0 ++ List.replicate j k)) (k : Int) _ rfl rfl rfl OW.out (by omega) (by omega) ?_;intro a6 c6 w6 own6 k6;have hy6 := HYG.out;have b76 := B7.out.keeps k6 (fun hm => by have := hy6 _ hm;omega);have HB7 := Lib.hid b76;have HO6 := Lib.hid own6;clear own6 d0 d1;obtain ⟨d0,d1⟩ := b76.one;clear b76))
      have kset : Keeps w6 (w6.setCell ⟨M + 1 + 1,0,none⟩ (.slice a6 (m + 1) c6)) [M + 1 + 1] := (Keeps.refl w6 _).setCell (.inr (by simp)) _
      have b67 := (B6.out.keeps k6 (fun hm => by have := HYG.out _ hm;omega)).keeps kset (by simp)
      have ms7 := (MS.out.keeps k6 (fun hm => by have := HYG.out _ hm;omega)).keeps kset (by simp;omega)
      have b77 : Blk (w6.setCell ⟨M + 1 + 1,0,none⟩ (.slice a6 (m + 1) c6)) (M + 1 + 1) #[.slice a6 (m + 1) c6] 25 := by
       have := HB7.out.set 0 (.slice a6 (m + 1) c6)
       simpa using this
      have own7 := own_old HO6.out kset (fun x hx hm => by have := List.mem_singleton.1 hm;have := (HO6.out.lt x hx).1;omega)
      have kk7 : Keeps w (w6.setCell ⟨M + 1 + 1,0,none⟩ (.slice a6 (m + 1) c6)) [] := (kk.trans k6 (fun j hj hl => by have := HYG.out j hj;omega)).trans kset (fun j hj hl => by have := List.mem_singleton.1 hj;omega)
      have hs7 : M + 3 ≤ (w6.setCell ⟨M + 1 + 1,0,none⟩ (.slice a6 (m + 1) c6)).heap.size := by have := k6.size;have := kset.size;omega
      generalize (w6.setCell ⟨M + 1 + 1,0,none⟩ (.slice a6 (m + 1) c6)) = w7 at *
      have hcl : castL (L0 ++ List.replicate j k) ++ [(k : Int)] = castL (L0 ++ List.replicate (j + 1) k) := by
       rw [show [(k : Int)] = castL [k] from rfl,← castL_append,List.append_assoc,← List.replicate_succ']
      rw [hcl] at own7
      go_roundw
      case rel => exact ⟨j + 1,c6,a6,by omega,by go_num,b67,ms7,by rw [HM3.out];exact b77,by rw [HM3.out];exact own7,kk7,hs7⟩
      case measure => simp [intOf];omega
     ·have hjI : decide ((j : Int) < (X : Int)) = false := decide_eq_false (by omega)
      have hjN : decide (j < X) = false := decide_eq_false (by omega)
      obtain rfl : j = X := by omega
      have B6 := Lib.hid b6
      have MS := Lib.hid ms
      have OW := Lib.hid own
      have B7 := Lib.hid b7
      have HKK := Lib.hid kk
      clear b6 ms own b7 kk
      go_wp2_with fail
      go_roundw
      case rel =>
       refine ⟨k + 1,c,a,by omega,by go_num,B6.out,MS.out,?_,?_,HKK.out,hszi⟩
       ·rw [HOT.out,List.length_append,List.length_replicate];exact B7.out
       ·rw [HOT.out,List.length_append,List.length_replicate];exact OW.out
      case measure => simp [intOf];omega
  ·have hkn : decide ((k : Int) < (n : Int)) = false := decide_eq_false (by omega)
   have hkN : decide (k < n) = false := decide_eq_false (by omega)
   obtain rfl : k = n := by omega
   rw [HN.out,lowsK_all] at ms
   rw [HN.out,othersK_all] at b7 own
   have hlens := HOK.out.lens
   rw [HSE.out] at hlens
   obtain ⟨lows,hlo⟩ : ∃ l,lowsL norm = l := ⟨_,rfl⟩
   obtain ⟨others,hot⟩ : ∃ l,othersL norm = l := ⟨_,rfl⟩
   have HLO := Lib.hid (And.intro hlo hot)
   rw [hlo] at ms hlens
   rw [hot] at b7 own hlens
   have fr0 : freeN S (S - lows.length) 0 = [] := rfl
   have spi : ∃ G,M + 3 ≤ G ∧ G ≤ wr.heap.size ∧ SpI w wr M S G 0 lows others := by
    have rd : RdI .i64 wr (.slice a others.length c) (castL others) := by
     have := own
     rw [← castL_len others] at this ⊢
     exact own_reads this
    refine ⟨match a with | some ad => ad.block | none => M + 3,?_,?_,b6,?_,⟨a,c,?_,?_,?_⟩,kk⟩
    ·cases a with
     | none => exact Nat.le_refl _
     | some ad => exact (own.lt ad.block rfl).1
    ·cases a with
     | none => exact hsz
     | some ad => exact Nat.le_of_lt (own.lt ad.block rfl).2
    ·rw [fr0,hasB_nil];exact ms.toI
    ·rw [fr0];exact b7
    ·rw [fr0];exact rd
    ·intro ad he;subst he;rfl
   obtain ⟨G,hG,hG2,spi⟩ := spi
   clear hlo hot b6 ms b7 own kk fr0
   have HSPI := Lib.hid spi
   clear spi
   go_wp2_with (go_at_call 221;(refine (turn_any S _).mono ?_;rintro e w3 ⟨rfl,rfl⟩))
   obtain ⟨WR,hWR⟩ : ∃ W,W = wr.alloc (.cells #[.int .i64 (S : Int)] 3) := ⟨_,rfl⟩
   have bt := Blk.new wr #[.int .i64 (S : Int)] 3
   have ka := (Keeps.refl wr []).alloc (.cells #[.int .i64 (S : Int)] 3)
   have spi := HSPI.out.keeps ka (by simp) (by simp) (by simp) (by simp) (by simp)
   have hszR : wr.heap.size < (wr.alloc (.cells #[.int .i64 (S : Int)] 3)).heap.size := by simp
   rw [← hWR] at bt ka spi hszR ⊢
   have hseq := turn1_seq wr.heap.size S WR hS1 hS2 bt
   generalize hBT : wr.heap.size = BT at *
   have hwr := HSPI.out.kk.size
   rw [hBT] at hwr
   clear hWR HSPI ka bt
   refine range_P (gf := 222) (lb := #[.pointer (some ⟨BT,0,none⟩)]) rfl (enters_of Tryz.func222 (by kernel_rfl) rfl)
    hseq [M,M + 1 + 1] ?hC ?hfine (fun _ => rfl)
    (fun pre X => ∃ v : Nat,v ≤ S ∧ pre = visitL S v ∧ SpI w X M S G v lows others ∧ BT < X.heap.size) (fun _ _ _ => False) ?hI ?hIx ?h0 ?hround ?hdone ?hstop
   case hC =>
    intro x hx
    simp only [List.mem_cons,List.not_mem_nil,or_false] at hx
    rcases hx with rfl | rfl <;> exact ⟨by omega,by omega⟩
   case hfine => show WR.heap.size + 1 ≠ BT;omega
   case hI =>
    rintro s A B' ⟨v,h1,h2,h3,h4⟩ hab'
    exact ⟨v,h1,h2,h3.keeps (keeps_of_under hab') (fun hm => by have := under_mem hm;omega) (fun hm => by have := under_mem hm;omega) (fun hm => by have := under_mem hm;omega) (fun hm => by have := under_mem hm;omega) (fun x hm => by have := under_mem hm;omega),Nat.lt_of_lt_of_le h4 hab'.size⟩
   case hIx => exact fun c s A B h _ => h
   case h0 => exact ⟨0,Nat.zero_le _,rfl,spi,hszR⟩
   case hstop => exact fun D c pre W _ _ h _ => h.elim
   case hround =>
    rintro l' pre x W2 hle hlt2 ⟨v,hv,rfl,spi,hbt⟩ hsp
    obtain ⟨hvS,rfl⟩ := visit_next hsp
    obtain ⟨q,hq⟩ : ∃ q,visitN S v = q := ⟨_,rfl⟩
    have hqS : q < S := by rw [← hq];exact visit_lt (by omega)
    have hvs : visitL S v ++ [((visitN S v : Nat) : Int)] = visitL S (v + 1) := (visitL_succ S v).symm
    have htop : lows.length ≤ S := by omega
    have hgS : 2 ^ g = S := HSE.out
    rw [hvs]
    rw [hq]
    gi_wp2
    refine ⟨Keeps.refl W2 _,fun W3 hT => ?_⟩
    have hszT := hT.size
    have spi3 := spi.keeps hT.keeps (by simp;omega) (by simp;omega) (by simp;omega) (by simp;omega) (fun y hm => by have := List.mem_singleton.1 hm;omega)
    obtain ⟨d0,-⟩ := spi3.b6.one
    have hlk := spi3.mp.look_ok (q := (q : Int)) (ik_small (by omega) (by omega))
    by_cases hqt : q < S - lows.length
    ·have hroom : (freeN S (S - lows.length) v).length < S - lows.length := by rw [← hgS] at hvS hqt ⊢;rw [← hgS] at hq;exact free_room hg9 (by omega) hvS (by rw [hq];exact hqt)
     have hfresh : q ∉ freeN S (S - lows.length) v := by rw [← hq,← hgS];exact visit_fresh hg9 (by omega)
     have hfs : freeN S (S - lows.length) (v + 1) = freeN S (S - lows.length) v ++ [q] := by rw [free_succ_yes (by rw [hq];exact hqt),hq]
     have hno := hasB_none (others := others) hqt hfresh
     rw [hno] at hlk
     have hB := hasB_snoc (S := S) (lows := lows) (others := others) hfresh
     rw [← hfs] at hB
     obtain ⟨a,c,r1,r2,r3⟩ := spi3.ro
     obtain ⟨j,hj⟩ : ∃ j,(freeN S (S - lows.length) v).length = j := ⟨_,rfl⟩
     have mp3 := spi3.mp
     have b63 := spi3.b6
     have kk3 := spi3.kk
     rw [hj] at hroom hB r1 r2 mp3
     have hj1 : (freeN S (S - lows.length) (v + 1)).length = j + 1 := by rw [hfs,List.length_append,hj];rfl
     obtain ⟨y,hy⟩ : ∃ y,others.getD j 0 = y := ⟨_,rfl⟩
     rw [hy] at hB
     have hyl : y < 256 := by
      have h1 : y ∈ others := by rw [← hy,List.getD_eq_getElem?_getD,List.getElem?_eq_getElem (by omega)];exact List.getElem_mem _
      rw [← HLO.out.2,← othersK_all] at h1
      have h2 := othersK_lt h1
      have := HOK.out.len
      omega
     have hfirst : (castL (others.drop j))[0]? = some (y : Int) := by
      rw [castL_drop,List.getElem?_drop,Nat.add_zero,castL_getD (by omega),hy]
     obtain ⟨bo,oo,rfl,hbo,hco⟩ := r2.at hfirst
     simp only [Nat.add_zero] at hco
     have hbG : bo = G := r3 _ rfl
     have mpd := mp3.keeps ((Keeps.refl W3 []).drew) (by simp)
     obtain ⟨w5,hu,mp5,g5⟩ := mpd.update (q := (q : Int)) (ik_small (by omega) (by omega)) (y : Int) (ik_small (by omega) (by omega)) (by unfold maxLen;omega)
     rw [← hB] at mp5
     have k5 : Keeps W3 w5 [M] := ((Keeps.refl W3 [M]).drew).trans (Keeps.of_grown (S := [M]) g5 (fun j hj => by cases hj;simp)) (fun j hj _ => hj)
     have b75 := r1.keeps k5 (by simp;omega)
     have b65 := b63.keeps k5 (by simp)
     have r25 := r2.keepsS k5 (fun ad n cp e _ hm => by cases e;have := List.mem_singleton.1 hm;simp only at this;omega)
     obtain ⟨n0,hn0⟩ : ∃ n0,others.length - j = n0 := ⟨_,rfl⟩
     rw [hn0] at r1 r2 b75 r25
     have hn1 : 1 ≤ n0 := by omega
     obtain ⟨a',c',hsl,r26,hbl⟩ := slice_rest r25 hn1
     have hcap := r2.cap
     obtain ⟨e0,-⟩ := r1.one
     obtain ⟨p0,p1⟩ := b75.one
     have hlt7 := b75.lt
     have hdr : (castL (others.drop j)).drop 1 = castL (others.drop (j + 1)) := by rw [castL_drop,castL_drop,List.drop_drop]
     rw [hdr] at r26
     have hn2 : n0 - 1 = others.length - (j + 1) := by omega
     have HN2 := Lib.hid hn2
     have R26 := Lib.hid r26
     have B65 := Lib.hid b65
     have B75 := Lib.hid b75
     have MP5 := Lib.hid mp5
     have HBL := Lib.hid hbl
     have HJ1 := Lib.hid hj1
     have HN0 := Lib.hid hn0
     have hmix : Tryz.prog.follows .mixedOrders = true := by kernel_rfl
     have K5 := Lib.hid k5
     have KK3 := Lib.hid kk3
     have hn0c : (0 : Int) < (n0 : Int) := by omega
     have HBG := Lib.hid hbG
     clear hbG
     have hn0p : 0 < n0 := by omega
     clear spi spi3 hT hsp hvs hq hfs hno hB r1 r2 r25 r26 r3 hfirst b65 b75 mp5 mp3 mpd b63 g5 hdr hn2 hbl hj hj1 hy hn0 k5 kk3 hfresh
     gi_wp2
     gi_region_with (fail)
     all_goals
      clear d0 hlk hco hu e0
      gi_wp2
      have kset : Keeps w5 (w5.setCell ⟨M + 1 + 1,0,none⟩ (.slice a' (n0 - 1) c')) [M + 1 + 1] := (Keeps.refl w5 _).setCell (.inr (by simp)) _
      refine ⟨(K5.out.mono (S' := [M,M + 1 + 1]) (by simp)).trans kset (fun j hj _ => by have := List.mem_singleton.1 hj;simp [this]),v + 1,by omega,rfl,⟨B65.out.keeps kset (by simp),?_,⟨a',c',?_,?_,?_⟩,?_⟩,?_⟩
      ·rw [HJ1.out,← Nat.add_assoc]
       exact MP5.out.keeps kset (by simp;omega)
      ·rw [HJ1.out,← HN2.out]
       have := B75.out.set 0 (.slice a' (n0 - 1) c')
       simpa using this
      ·rw [HJ1.out,← HN2.out]
       exact R26.out.keepsS kset (fun ad n cp e _ hm => by
        cases e
        obtain ⟨ad2,h1,h2⟩ := HBL.out _ rfl
        cases h1
        have h3 := List.mem_singleton.1 hm
        have h4 := HBG.out
        simp only at h2
        omega)
      ·intro ad he
       obtain ⟨ad2,h1,h2⟩ := HBL.out _ he
       cases h1
       rw [h2]
       exact HBG.out
      ·exact (KK3.out.trans K5.out (fun j hj hl => by have := List.mem_singleton.1 hj;omega)).trans kset (fun j hj hl => by have := List.mem_singleton.1 hj;omega)
      ·have := kset.size;have := K5.out.size;omega
    ·have hqt' : S - lows.length ≤ q := by omega
     have hfs : freeN S (S - lows.length) (v + 1) = freeN S (S - lows.length) v := free_succ_no (by rw [hq];omega)
     have hso := hasB_some_low (others := others) (fr := freeN S (S - lows.length) v) hqt' hqS htop
     rw [hso] at hlk
     have HS3 : Hid (SpI w W3 M S G (v + 1) lows others) := by
      obtain ⟨e1,e2,e3,e4⟩ := spi3
      exact ⟨e1,by rw [hfs];exact e2,by rw [hfs];exact e3,e4⟩
     clear spi spi3 hT hsp hvs hq hfs
     gi_wp2
     exact ⟨Keeps.refl W3 _,v + 1,by omega,rfl,HS3.out,by omega⟩
   case hdone =>
    rintro D xs W hD rfl ⟨v,hv,hxs,spi,hbt⟩ hK
    have hvS : v = S := by have := congrArg List.length hxs;rw [visitL_len,visitL_len] at this;omega
    rw [hvS] at spi
    clear hxs hvS hv
    have hmk := make_ints S (by omega)
    have HP : Hid (∀ t,t < S → hasB S lows others (freeN S (S - lows.length) S) (t : Int) = some ((placeN g norm t : Nat) : Int)) := fun t ht => by
     have h1 := HLO.out.1
     have h2 := HLO.out.2
     have h3 := hasB_end (p := t) (norm := norm) hg9 (by rw [HSE.out];exact ht) (by rw [HSE.out,h1];omega)
     rw [HSE.out,h1,h2] at h3
     exact h3
    have HPL : Hid (∀ t,t < S → (castL (placesL g norm))[t]? = some ((placeN g norm t : Nat) : Int)) := fun t ht => by
     have h3 := placesL_get (g := g) (p := t) (norm := norm) (by rw [HSE.out];exact ht)
     simp [castL,h3]
    have HPN : Hid ((castL (placesL g norm)).length = S) := by show _ = _;rw [castL_len,placesL_len,HSE.out]
    have HPB : Hid (∀ t,placeN g norm t < 256) := fun t => Nat.lt_of_lt_of_le (placeN_lt hg9 HOK.out.pos) HOK.out.len
    have SPI := Lib.hid spi
    have hDl := (Array.getElem?_eq_some_iff.1 hK).1
    have HK := Lib.hid hK
    have HDB : Hid (w.heap.size ≤ D ∧ D ≠ M ∧ D ≠ M + 1) := ⟨by omega,by omega,by omega⟩
    clear spi hbt hK
    go_wp2_with fail
    have ka := (Keeps.refl W []).alloc (.cells (ints (List.replicate S 0)) 3)
    have row0 : RowI (W.alloc (.cells (ints (List.replicate S 0)) 3)) W.heap.size S S ((castL (placesL g norm)).take 0 ++ List.replicate (S - 0) 0) := by
     refine ⟨by simp,by simp,.inr ⟨W.heap.size,S,_,rfl,Nat.zero_le _,heap_alloc_new W _,Nat.le_refl _,by unfold maxLen;omega,by simp [ints],by simp [ints]⟩⟩
    have b60 := SPI.out.b6.keeps ka (by simp)
    have mp0 := SPI.out.mp.keeps ka (by simp)
    have kk0 := SPI.out.kk.then ka
    have hK0 : (W.alloc (.cells (ints (List.replicate S 0)) 3)).heap[D]? = some (.deferred (some [])) := (ka.block D hDl (by simp)).trans HK.out
    have hMW : M + 1 < W.heap.size := SPI.out.b6.lt
    have hWw := SPI.out.kk.size
    clear ka hmk
    generalize hO : W.heap.size = O at *
    generalize (W.alloc (.cells (ints (List.replicate S 0)) 3)) = W0 at *
    have HR0 := Lib.hid (And.intro row0 (And.intro b60 (And.intro mp0 (And.intro kk0 hK0))))
    clear row0 b60 mp0 kk0 hK0
    go_loopw [73] (fun s73 wr => ∃ t : Nat,t ≤ S ∧ s73 = .int .i64 t ∧ RowI wr O S S ((castL (placesL g norm)).take t ++ List.replicate (S - t) 0) ∧ Blk wr (M + 1) #[.map (some M)] 256 ∧
      MapI wr M (lows.length + (freeN S (S - lows.length) S).length) (hasB S lows others (freeN S (S - lows.length) S)) ∧ Keeps w wr [] ∧ Hid (wr.heap[D]? = some (.deferred (some [])))) (fun s73 _ => S - (intOf s73).toNat)
    case atStart => exact ⟨0,Nat.zero_le _,rfl,HR0.out.1,HR0.out.2.1,HR0.out.2.2.1,HR0.out.2.2.2.1,HR0.out.2.2.2.2⟩
    case round =>
     clear HR0
     obtain ⟨t,ht,rfl,row,b6,mp,kk,hKr⟩ := hrel
     by_cases hlt : t < S
     ·have htS : (t : Int) < (S : Int) := by omega
      have hlk := mp.look (q := (t : Int)) (ik_small (by omega) (by omega))
      rw [HP.out t hlt] at hlk
      simp only [Option.getD_some] at hlk
      have hyb := HPB.out t
      have hget := HPL.out t hlt
      have hlen := HPN.out
      generalize placeN g norm t = y at *
      have hrow1 := row.set t (y : Int)
      rw [take_rep_set hget hlt hlen] at hrow1
      have c73 : wr.cell? ⟨O,t,none⟩ = some (.int .i64 0) := row.at (by
       rw [List.getElem?_append_right (by rw [List.length_take];omega),List.length_take,Nat.min_eq_left (by omega),Nat.sub_self]
       rw [List.getElem?_replicate,if_pos (by omega)])
      have f73 := row.frozen t
      obtain ⟨d0,-⟩ := b6.one
      have kset : Keeps wr (wr.setCell ⟨O,t,none⟩ (.int .i64 (y : Int))) [O] := (Keeps.refl wr _).setCell (.inr (by simp)) _
      have b61 := b6.keeps kset (by simp;omega)
      have mp1 := mp.keeps kset (by simp;omega)
      have kk1 : Keeps w (wr.setCell ⟨O,t,none⟩ (.int .i64 (y : Int))) [] := kk.trans kset (fun j hj hl => by have := List.mem_singleton.1 hj;omega)
      have hK1 : Hid ((wr.setCell ⟨O,t,none⟩ (.int .i64 (y : Int))).heap[D]? = some (.deferred (some []))) := (kset.block D (Array.getElem?_eq_some_iff.1 hKr.out).1 (by simp;omega)).trans hKr.out
      have R1 := Lib.hid hrow1
      have B61 := Lib.hid b61
      have MP1 := Lib.hid mp1
      have KK1 := Lib.hid kk1
      clear row b6 mp kk hKr hrow1 b61 mp1 kk1 kset hget hlen
      go_wp2_with fail
      go_roundw
      case rel => exact ⟨t + 1,by omega,by go_num,R1.out,B61.out,MP1.out,KK1.out,hK1⟩
      case measure => simp [intOf];omega
     ·have htS : decide ((t : Int) < (S : Int)) = false := decide_eq_false (by omega)
      have htN : decide (t < S) = false := decide_eq_false (by omega)
      have ht' : t = S := by omega
      rw [ht'] at row
      rw [List.take_of_length_le (by rw [HPN.out];exact Nat.le_refl _),Nat.sub_self,List.replicate_zero,List.append_nil] at row
      have ROW := Lib.hid row
      have KK := Lib.hid kk
      clear row b6 mp kk ht'
      go_wp2_with fail
      refine ⟨by simp,.inl ⟨_,_,rfl,run_takeDeferred hKr.out,?_⟩⟩
      have kp : Keeps wr (wr.putObj D (.deferred none)) [D] := keeps_put
      refine ⟨.tuple #[.slice (some ⟨O,0,none⟩) S S,.int .i64 0],by simp [results,Tryz.results210],O,by omega,by rw [HSE.out],?_,KK.out.trans kp (fun j hj hl => by have := List.mem_singleton.1 hj;have := HDB.out;omega)⟩
      rw [HSE.out]
      exact ROW.out.keeps kp (by simp;omega)


end Go.Proofs.YtcmagccfagijlaaGreat
