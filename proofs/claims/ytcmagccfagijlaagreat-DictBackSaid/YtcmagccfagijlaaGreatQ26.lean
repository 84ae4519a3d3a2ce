/-
  Walks over package weights: coded (a description in format 1).
-/
import Derived.Test.YtcmagccfagijlaaGreatQ24
import Derived.Test.YtcmagccfagijlaaGreatQ25
import Derived.Test.YtcmagccfagijlaaGreatQ1
namespace Go.Proofs.YtcmagccfagijlaaGreat
set_option linter.unusedVariables false
set_option linter.unusedSimpArgs false
set_option linter.unusedSectionVars false
set_option maxRecDepth 100000
open Go.RowKit

def isN (M : Nat) (x : Int) : Bool := decide (x = (M : Int))
theorem coded1_any (M : Nat) (x : Int) (N : Nat) (u : Value) (L : List Int) (w : World) (hb : Blk w N #[u] 25) (hu : RdI .i64 w u L) (hM : L.length = M) :
  Calls Tryz.prog 176 #[.int .i64 x,.pointer (some ⟨N,0,none⟩)] w fun e w' => e = .returned (.bool (isN M x)) ∧ w = w' := by
 obtain ⟨A0,n,cp,rfl,hn,-⟩ := hu.form
 obtain rfl : n = M := hn.trans hM
 obtain ⟨c1,-⟩ := hb.one
 have hx : (x == (n : Int)) = isN n x := by
  unfold isN
  by_cases h : x = (n : Int)
  ·subst h;simp
  ·simp [h]
 obtain ⟨R,hR⟩ : ∃ R,isN n x = R := ⟨_,rfl⟩
 rw [hR] at hx ⊢
 clear hb hu hn hM hR
 go_enter Tryz.func176,Tryz.ntmps176
 go_wp2_with fail
 go_ret
 exact ⟨by first | rfl | rw [hx] | simp_all,rfl⟩

set_option maxHeartbeats 2000000 in
theorem idxOne_any (M N : Nat) (u : Value) (L : List Int) (v : Value) (l : List Int) (w : World) (hb : Blk w N #[u] 25) (hu : RdI .i64 w u L) (hM : L.length = M) (hv : RdI .i64 w v l) (hn : l.length ≤ 1000) :
  Calls Tryz.prog 74 #[v,.func (.func 176) #[] #[.pointer (some ⟨N,0,none⟩)]] w fun e w' => (∃ r : Int,e = .returned (.int .i64 r) ∧ decide (0 ≤ r) = l.any (isN M)) ∧ w = w' := by
 obtain ⟨A0,n,cp0,rfl,hnl,-⟩ := hv.form
 have HV := Lib.hid hv
 have HN := Lib.hid hnl
 have HB := Lib.hid (fun (x : Int) => coded1_any M x N u L w hb hu hM)
 have hn' : n ≤ 1000 := by omega
 obtain ⟨R,hR⟩ : ∃ R,R = l.any (isN M) := ⟨_,rfl⟩
 have HR := Lib.hid hR
 rw [← hR]
 clear hv hnl hb hn hR hu hM
 go_enter Tryz.func74,Tryz.ntmps74
 go_wp2_with fail
 go_loop [8] (fun i => ∃ k : Nat,k ≤ n ∧ i = .int .i64 k ∧ Hid (∀ x ∈ l.take k,isN M x = false)) (fun i => n - (intOf i).toNat)
 case atStart => exact ⟨0,Nat.zero_le _,rfl,by show ∀ x ∈ _,_;simp⟩
 case round =>
  obtain ⟨k,hk,rfl,hno⟩ := hrel
  by_cases hlt : k < n
  ·obtain ⟨x,hx⟩ : ∃ x,l[k]? = some x := ⟨_,List.getElem?_eq_getElem (by have := HN.out;omega)⟩
   obtain ⟨bb,o,rfl,hbb,hc⟩ := HV.out.at hx
   have hcap := HV.out.cap
   have hkn : (k : Int) < (n : Int) := by omega
   have hk0 : (0 : Int) ≤ (k : Int) := Int.natCast_nonneg _
   have HX := Lib.hid hx
   clear hx
   have HBx := HB.out x
   cases hbx : isN M x
   ·rw [hbx] at HBx
    replace HBx := Lib.hid HBx
    have NX : Hid (∀ y ∈ l.take (k + 1),isN M y = false) := by
     show ∀ y ∈ _,_
     rw [take_next HX.out]
     intro y hy
     rcases List.mem_append.1 hy with hy | hy
     ·exact hno.out y hy
     ·rw [List.mem_singleton.1 hy];exact hbx
    clear hbx
    go_wp2_with fail
    refine HBx.out.mono ?_
    rintro e w1 ⟨rfl,rfl⟩
    go_wp2_with fail
    go_round
    case rel => exact ⟨k + 1,by omega,by go_num,NX⟩
    case measure => simp [intOf];omega
   ·rw [hbx] at HBx
    replace HBx := Lib.hid HBx
    have FR : Hid (R = true) := by
     show _ = _
     rw [HR.out]
     exact List.any_eq_true.2 ⟨x,List.mem_of_getElem? HX.out,hbx⟩
    clear hbx
    go_wp2_with fail
    refine HBx.out.mono ?_
    rintro e w1 ⟨rfl,rfl⟩
    go_wp2_with fail
    go_ret
    exact ⟨⟨_,rfl,by rw [FR.out];simp⟩,rfl⟩
  ·have : k = n := by omega
   subst this
   have FR : Hid (R = false) := by
    show _ = _
    rw [HR.out]
    refine List.any_eq_false.2 (fun y hy => ?_)
    rw [hno.out y (by rw [List.take_of_length_le (by have := HN.out;omega)];exact hy)]
    simp
   go_wp2_with fail
   go_ret
   exact ⟨⟨_,rfl,by rw [FR.out];simp⟩,rfl⟩

theorem hasOne_any (M N : Nat) (u : Value) (L : List Int) (v : Value) (l : List Int) (w : World) (hb : Blk w N #[u] 25) (hu : RdI .i64 w u L) (hM : L.length = M) (hv : RdI .i64 w v l) (hn : l.length ≤ 1000) :
  Calls Tryz.prog 39 #[v,.func (.func 176) #[] #[.pointer (some ⟨N,0,none⟩)]] w fun e w' => e = .returned (.bool (l.any (isN M))) ∧ w = w' := by
 have HI := Lib.hid (idxOne_any M N u L v l w hb hu hM hv hn)
 generalize l.any (isN M) = R at *
 clear hb hv hn hu hM
 go_enter Tryz.func39,Tryz.ntmps39
 go_wp2_with fail
 refine HI.out.mono ?_
 rintro e w1 ⟨⟨r,rfl,hr⟩,rfl⟩
 go_wp2_with fail
 go_ret
 exact ⟨rfl,rfl⟩

theorem oneW_isN (l : List Int) : oneW l = (cntW l).any (isN l.length) := rfl
theorem cntW_take {l : List Int} {k : Nat} {x : Int} (h : l[k]? = some x) : cntW (l.take (k + 1)) = upC (cntW (l.take k)) x := by
 rw [take_next h,cntW_snoc]
theorem stN_le {norm : List Int} (h : ∀ n ∈ norm,-1 ≤ n) : ∀ x ∈ norm,x ≤ sumN norm := by
 induction norm with
 | nil => intro x hx;cases hx
 | cons y l ih =>
  have h0 : ∀ (m : List Int),(∀ n ∈ m,-1 ≤ n) → 0 ≤ sumN m := by
   intro m hm
   induction m with
   | nil => simp [sumN]
   | cons z m ihm =>
    have := stN_nonneg (hm z (by simp))
    have := ihm (fun n hn => hm n (by simp [hn]))
    simp only [sumN];omega
  intro x hx
  have h1 := h0 l (fun n hn => h n (by simp [hn]))
  have h2 := stN_nonneg (h y (by simp))
  simp only [sumN]
  rcases List.mem_cons.1 hx with rfl | hx
  ·have : x ≤ stN x := by unfold stN;split <;> omega
   omega
  ·have := ih (fun n hn => h n (by simp [hn])) x hx
   omega
theorem tbl_bounds {g : Nat} {norm : List Int} (h : TblOk g norm) : ∀ x ∈ norm,-9223372036854775808 ≤ x ∧ x ≤ 9223372036854775807 := by
 intro x hx
 have h1 := stN_le h.low x hx
 have h2 := h.low x hx
 have h9 : 2 ^ g ≤ 2 ^ 9 := Nat.pow_le_pow_right (by decide) h.g9
 rw [show (2 : Nat) ^ 9 = 512 by decide] at h9
 rw [h.sum] at h1
 omega
theorem ownB_app {w : World} {base : Nat} {v : Value} {L M : List Int} (h : w.ownsRow base 5 1 v (L.length + M.length) (L.map (.int .u8) ++ M.map (.int .u8))) : OwnB w base v (L ++ M) := by
 unfold OwnB
 rw [List.length_append,List.map_append]
 exact h
structure CMem (w W : World) (n cp : Nat) (A0 : Option Addr) (l h : List Int) : Prop where
 b1 : Blk W w.heap.size #[.slice A0 n cp] 25
 row : RowI W (w.heap.size + 1) 12 12 h
 rd : RdI .i64 W (.slice A0 n cp) l
 kk : Keeps w W []
theorem CMem.keeps {w W W' : World} {n cp : Nat} {A0 : Option Addr} {l h : List Int} (m : CMem w W n cp A0 l h) (k : Keeps W W' []) : CMem w W' n cp A0 l h :=
 ⟨m.b1.keeps k (by simp),m.row.keeps k (by simp),m.rd.keeps k,m.kk.then k⟩
theorem CMem.set {w W : World} {n cp : Nat} {A0 : Option Addr} {l h : List Int} (m : CMem w W n cp A0 l h) (ho : ∀ ad m c,(Value.slice A0 n cp) = .slice (some ad) m c → 0 < m → ad.block < w.heap.size) (i : Nat) (x : Int) : CMem w (W.setCell ⟨w.heap.size + 1,i,none⟩ (.int .i64 x)) n cp A0 l (h.set i x) := by
 have k : Keeps W (W.setCell ⟨w.heap.size + 1,i,none⟩ (.int .i64 x)) [w.heap.size + 1] := (Keeps.refl W _).setCell (.inr (by simp)) _
 exact ⟨m.b1.keeps k (by simp),m.row.set i x,m.rd.keepsS k (fun ad mm c e h0 hm => by have := ho ad mm c e h0;have := List.mem_singleton.1 hm;omega),m.kk.trans k (fun j hj hl => by have := List.mem_singleton.1 hj;omega)⟩

set_option maxHeartbeats 8000000 in
theorem coded_any (v : Value) (l : List Int) (w : World) (hv : RdI .i64 w v l) (hl : ∀ x ∈ l,0 ≤ x ∧ x ≤ 11) (h0 : 0 < l.length) (h255 : l.length ≤ 255) :
  Calls Tryz.prog 145 #[v] w fun e w' => ∃ v',e = .returned v' ∧ OwnB w' w.heap.size v' (codedE l) ∧ Keeps w w' [] := by
 obtain ⟨i0,hi,hz0,hz1,hz2⟩ := info_parts Tryz.infoByte
 have hmf : ∀ (fn : Fn) (first cap : Array Value) (w : World),(Instr.makeFunc fn first cap).run Tryz.prog w = .ok (.func fn first cap) w := fun _ _ _ _ => rfl
 obtain ⟨R,hR⟩ : ∃ R,ints (List.replicate 12 0) = R := ⟨_,rfl⟩
 have hmk : ∀ w,(Instr.makeSlice 25 (.int .i64 12) (.int .i64 12)).run Tryz.prog w = .ok (.slice (some ⟨w.heap.size,0,none⟩) 12 12) (w.alloc (.cells R 3)) := hR ▸ make_ints 12 (by omega)
 obtain ⟨A0,n,cp,rfl,hn,-⟩ := hv.form
 have HOLD : Hid (∀ ad m c,(Value.slice A0 n cp) = .slice (some ad) m c → 0 < m → ad.block < w.heap.size) := Lib.hid (fun ad m c e h0 => by
  cases e
  obtain ⟨b,o,he,hb,-⟩ := hv.addr h0
  cases he
  exact hb)
 have M0 : CMem w ((w.alloc (.cells #[.slice A0 n cp] 25)).alloc (.cells R 3)) n cp A0 l (cntW (l.take 0)) := by
  refine ⟨(Blk.new w _ _).alloc _,?_,hv.keeps (((Keeps.refl w []).alloc _).alloc _),((Keeps.refl w []).alloc _).alloc _⟩
  subst hR
  have : RowI ((w.alloc (.cells #[.slice A0 n cp] 25)).alloc (.cells (ints (List.replicate 12 0)) 3)) (w.alloc (.cells #[.slice A0 n cp] 25)).heap.size 12 12 (cntW (l.take 0)) := by
   refine ⟨by simp;exact (cntW_ok (l := []) (fun x hx => by cases hx)).1.len,by simp;exact (cntW_ok (l := []) (fun x hx => by cases hx)).1.len,.inr ⟨_,12,_,rfl,Nat.zero_le _,heap_alloc_new _ _,Nat.le_refl _,by unfold maxLen;omega,by simp [ints],by simp [ints,cntW]⟩⟩
  simpa only [World.size_alloc] using this
 have HM0 := Lib.hid M0
 clear hR
 have HN := Lib.hid hn
 have HL := Lib.hid hl
 have H0 := Lib.hid (And.intro h0 h255)
 have hn1 : 0 < n := by omega
 have hn2 : n ≤ 255 := by omega
 obtain ⟨c1,-⟩ := M0.b1.one
 obtain ⟨c1',-⟩ := (Blk.new w #[.slice A0 n cp] 25).one
 clear hv hn hl h0 h255 M0
 go_enter Tryz.func145,Tryz.ntmps145
 go_wp2_with fail
 generalize ((w.alloc (.cells #[.slice A0 n cp] 25)).alloc (.cells R 3)) = W0 at *
 clear c1 c1'
 go_loopw [15] (fun s15 wr => ∃ i : Nat,i ≤ n ∧ s15 = .int .i64 (i : Int) ∧ CMem w wr n cp A0 l (cntW (l.take i))) (fun s15 _ => n - (intOf s15).toNat)
 case atStart => exact ⟨0,Nat.zero_le _,rfl,HM0.out⟩
 case round =>
  clear HM0
  obtain ⟨i,hin,rfl,mem⟩ := hrel
  by_cases hlt : i < n
  ·have hiI : (i : Int) < (n : Int) := by omega
   obtain ⟨x,hx⟩ : ∃ x,l[i]? = some x := ⟨_,List.getElem?_eq_getElem (by have := HN.out;omega)⟩
   obtain ⟨hx0,hx1⟩ := HL.out x (List.mem_of_getElem? hx)
   obtain ⟨xn,rfl⟩ := Int.eq_ofNat_of_zero_le hx0
   obtain ⟨ck,-⟩ := cntW_ok (l := l.take i) (fun y hy => HL.out y (List.mem_of_mem_take hy))
   have hlen := ck.len
   obtain ⟨y,hy⟩ : ∃ y,(cntW (l.take i))[xn]? = some y := ⟨_,List.getElem?_eq_getElem (by omega)⟩
   have hyD : (cntW (l.take i)).getD xn 0 = y := by rw [List.getD_eq_getElem?_getD,hy];rfl
   have hy0 : 0 ≤ y := by have := ck.low xn;omega
   have hy1 : y ≤ 255 := by
    have h1 := ck.sum
    have h2 := getD_le_sum (l := cntW (l.take i)) (fun z hz => by obtain ⟨j,hj⟩ := List.getElem?_of_mem hz;have := ck.low j;rw [List.getD_eq_getElem?_getD,hj] at this;exact this) xn
    rw [hyD,h1,List.length_take] at h2
    have := HN.out
    omega
   obtain ⟨bb,o,rfl,hbb,hc⟩ := mem.rd.at hx
   have hcap := mem.rd.cap
   have d1 := mem.row.at hy
   have f1 := mem.row.frozen xn
   obtain ⟨Y,hY⟩ : ∃ Y : Int,y + 1 = Y := ⟨_,rfl⟩
   have hwY : wrap64 Y = Y := IntWalk.wrap64_in _ ⟨by omega,by omega⟩
   have hset := mem.set HOLD.out xn Y
   have HS := Lib.hid (show CMem w _ n cp _ l (cntW (l.take (i + 1))) by rw [cntW_take hx,upC,Int.toNat_natCast,hyD,hY];exact hset)
   clear mem hx hy hyD ck hlen hset
   go_wp2_with fail
   go_roundw
   case rel => exact ⟨i + 1,by omega,by go_num,HS.out⟩
   case measure => simp [intOf];omega
  ·obtain rfl : i = n := by omega
   have hii : decide ((i : Int) < (i : Int)) = false := by simp
   rw [List.take_of_length_le (by have := HN.out;omega)] at mem
   have MM := Lib.hid mem
   have HHAS := Lib.hid (hasOne_any i w.heap.size _ l _ _ wr mem.b1 mem.rd HN.out.symm mem.row.reads (by have := (cntW_ok HL.out).1.len;omega))
   have hone : (cntW l).any (isN i) = oneW l := by rw [oneW_isN,← HN.out]
   rw [hone] at HHAS
   clear mem hone
   by_cases hO : oneW l = true
   ·have hadd : addW l = upC (cntW l) ((l.getD 0 0 + 1) % 12) := if_pos hO
    obtain ⟨x,hx⟩ : ∃ x,l[0]? = some x := ⟨_,List.getElem?_eq_getElem H0.out.1⟩
    obtain ⟨hx0,hx1⟩ := HL.out x (List.mem_of_getElem? hx)
    have hgx : l.getD 0 0 = x := by rw [List.getD_eq_getElem?_getD,hx];rfl
    rw [hgx] at hadd
    obtain ⟨X1,hX1⟩ : ∃ X : Int,x + 1 = X := ⟨_,rfl⟩
    rw [hX1] at hadd
    have hwX : wrap64 X1 = X1 := IntWalk.wrap64_in _ ⟨by omega,by omega⟩
    obtain ⟨q,hq⟩ := Int.eq_ofNat_of_zero_le (show 0 ≤ X1 % 12 by omega)
    have hqT : X1.tmod 12 = (q : Int) := by rw [Int.tmod_eq_emod_of_nonneg (by omega)];exact hq
    have hq12 : q < 12 := by omega
    have hq12I : (q : Int) < 12 := by omega
    have ck := (cntW_ok HL.out).1
    have hlen := ck.len
    obtain ⟨y,hy⟩ : ∃ y,(cntW l)[q]? = some y := ⟨_,List.getElem?_eq_getElem (by omega)⟩
    have hyD : (cntW l).getD q 0 = y := by rw [List.getD_eq_getElem?_getD,hy];rfl
    have hy0 : 0 ≤ y := by have := ck.low q;omega
    have hy1 : y ≤ 255 := by
     have h1 := ck.sum
     have h2 := getD_le_sum (l := cntW l) (fun z hz => by obtain ⟨j,hj⟩ := List.getElem?_of_mem hz;have := ck.low j;rw [List.getD_eq_getElem?_getD,hj] at this;exact this) q
     rw [hyD,h1] at h2
     have := H0.out
     omega
    rw [hq,upC,Int.toNat_natCast,hyD] at hadd
    obtain ⟨bb,o,rfl,hbb,hc⟩ := MM.out.rd.at hx
    have hcap := MM.out.rd.cap
    rw [Nat.add_zero] at hc
    have d1 := MM.out.row.at hy
    have f1 := MM.out.row.frozen q
    obtain ⟨c1,-⟩ := MM.out.b1.one
    obtain ⟨Y,hY⟩ : ∃ Y : Int,y + 1 = Y := ⟨_,rfl⟩
    rw [hY] at hadd
    have hwY : wrap64 Y = Y := IntWalk.wrap64_in _ ⟨by omega,by omega⟩
    have mem0 := MM.out.set HOLD.out q Y
    rw [← hadd] at mem0
    have MEM := Lib.hid mem0
    have hn0I : (0 : Int) < (i : Int) := by omega
    rw [hO] at HHAS
    clear mem0 hx hy hyD ck hlen hadd hgx hO hq
    go_wp2_with (first
     | (go_at_call 39;(refine HHAS.out.mono ?_;rintro e w1 ⟨rfl,rfl⟩)))
    generalize (World.setCell _ ⟨w.heap.size + 1,q,none⟩ (.int .i64 Y)) = wm at *
    clear MM d1 f1 c1 hc
    have mem := MEM.out
    clear MEM
    obtain ⟨t1,t2,t3,t4,t5,t6,t7,t8,t9,t10,t11⟩ := nmW_ok HL.out H0.out.1
    have hfl := flW_len HL.out H0.out.1 H0.out.2
    have hde := descE_len t1 t4
    have HNO := Lib.hid (nnorm_ok _ (addW l) 6 _ mem.row.reads t9 t7 (by have := H0.out;omega) (by omega) (by decide) t10 (by rw [show (((2 ^ 6 : Nat)) : Int) = 64 by decide];exact t11))
    rw [show (((2 ^ 6 : Nat)) : Int) = 64 by decide,t6,show normF (addW l) 64 (sumZ (addW l)) = nmW l from rfl,← t3] at HNO
    have hsym := t5
    rw [show ((6 : Nat) : Int) = 6 by decide] at HNO
    obtain ⟨NM,hNM⟩ : ∃ x,nmW l = x := ⟨_,rfl⟩
    obtain ⟨FL,hFL⟩ : ∃ x,flW l = x := ⟨_,rfl⟩
    have hFL2 : flowE 6 NM (l.map Int.toNat) = FL := by rw [← hNM];exact hFL
    have hFIN : codedE l = varI l.length ++ [1] ++ descE 6 NM ++ varI FL.length ++ FL := by rw [← hNM,← hFL];rfl
    rw [hNM] at t1 t2 t4 hsym hde HNO
    rw [hFL] at hfl
    have hNMb : ∀ x ∈ NM,-9223372036854775808 ≤ x ∧ x ≤ 9223372036854775807 := tbl_bounds t1
    have hcast : castL (l.map Int.toNat) = l := map_cast HL.out
    have HDE := Lib.hid (fun W u c a (h : RdI .i64 W (.slice a u c) NM) => dencode_ok 6 (.slice a u c) NM W h (okN_of t1 t2) (by decide) t1 t2 hNMb)
    have HFE := Lib.hid (fun W u c a (h : RdI .i64 W (.slice a u c) NM) (hs : RdI .i64 W (.slice (some ⟨bb,o,none⟩) i cp) l) => fenc_ok 6 (.slice a u c) (.slice (some ⟨bb,o,none⟩) i cp) NM (l.map Int.toNat) W h hNMb t1 (okN_of t1 t2) (by rw [hcast];exact hs) hsym (by rw [List.length_map];have := H0.out;omega))
    rw [hFL2] at HFE
    rw [show ((6 : Nat) : Int) = 6 by decide] at HDE HFE
    obtain ⟨DS,hDS⟩ : ∃ x,descE 6 NM = x := ⟨_,rfl⟩
    rw [hDS] at hFIN hde HDE
    have HHD := Lib.hid (fun W (h : RdI .i64 W (.slice (some ⟨bb,o,none⟩) i cp) l) => whead_any (.slice (some ⟨bb,o,none⟩) i cp) l 1 W h (by have := H0.out;omega) (by decide) (by decide))
    have hvl : (varI l.length).length ≤ 10 := varI_len 9 l.length (by have := H0.out;omega)
    obtain ⟨V1,hVI⟩ : ∃ x,varI l.length ++ [1] = x := ⟨_,rfl⟩
    have hV1l : V1.length ≤ 11 := by rw [← hVI];simp;omega
    rw [hVI] at HHD hFIN
    have hpe : ¬ 4611686018427387903 < FL.length := by omega
    obtain ⟨V3,hV3⟩ : ∃ x,V1 ++ DS ++ varI FL.length = x := ⟨_,rfl⟩
    rw [hV3] at hFIN
    have hvf := varI_len 9 FL.length (by omega)
    have hV3l : V3.length ≤ 300 := by rw [← hV3];simp;omega
    have HPV := Lib.hid (fun W v (h : RdI .u8 W v (V1 ++ DS)) => (putVarint_any v (V1 ++ DS) FL.length W h (by simp;omega) (by omega)).mono (fun e w' h => show ∃ v,e = .returned (.tuple #[v,.int .i64 0]) ∧ OwnB w' W.heap.size v V3 ∧ Keeps W w' [] by unfold PutEnd at h;rw [if_neg hpe,hV3] at h;exact h))
    have HFIN := Lib.hid hFIN
    have hflw : IntKind.u64.wrap (FL.length : Int) = (FL.length : Int) := by simp [IntKind.wrap,IntKind.signed,IntKind.bits];omega
    have MM := Lib.hid mem
    have HVF : Hid ((varI FL.length).length ≤ 10) := Lib.hid (varI_len 9 FL.length (by omega))
    have HDSL := Lib.hid (show DS.length ≤ 200 ∧ FL.length ≤ 2400 ∧ V1.length ≤ 11 ∧ V3.length ≤ 300 from ⟨hde,hfl,hV1l,hV3l⟩)
    clear t1 t2 t3 t4 t5 t6 t7 t8 t9 t10 t11 hsym hNM hFL hFL2 hFIN hNMb hcast hDS hVI hvl hpe hde hfl mem hV1l hV3 hV3l hvf
    go_wp2_with (first
     | (go_at_call 177;((refine HNO.out.mono ?_;rintro e w1 ⟨a1,c1,rfl,rd1,k1⟩;have mem1 := MM.out.keeps k1;have ka := ((Keeps.refl w1 []).alloc (.cells #[.int .i64 6,.slice a1 NM.length c1] 27)).alloc (.cells #[.int .i64 0] 33);have T1 := (Blk.new w1 #[.int .i64 6,.slice a1 NM.length c1] 27).alloc (.cells #[.int .i64 0] 33);have M1 := mem1.keeps ka;have RD1 := rd1.keeps ka;have HR1 := Lib.hid (show _ ∧ _ ∧ _ from ⟨T1,M1,RD1⟩);clear mem1 rd1 k1 ka T1 M1 RD1)))
     | (go_at_call 66;((refine (HDE.out _ _ _ _ HR1.out.2.2).mono ?_;rintro e w3 ⟨v3,rfl,own3,k3⟩;have ka3 : Keeps w3 (w3.alloc (.cells #[.int .i64 0] 33)) [] := (Keeps.refl w3 []).alloc _;obtain ⟨a3,c3,rfl⟩ := own_form own3;have T3 := ((HR1.out.1).keeps k3 (by simp)).keeps ka3 (by simp);have M3 := ((HR1.out.2.1).keeps k3).keeps ka3;have RD3 := ((HR1.out.2.2).keeps k3).keeps ka3;have OW3 := own_keeps own3 ka3;have s3 := own3.lt;have hq0 := T3.cell 0;have hq1 := T3.cell 1;simp at hq0 hq1;obtain ⟨hq2,-⟩ := M3.b1.one;have HR3 := Lib.hid (show _ ∧ _ ∧ _ ∧ _ from ⟨M3,RD3,OW3,s3⟩);clear ka3 T3 M3 RD3 OW3 s3 own3 k3)))
     | (go_at_call 178;((refine (HFE.out _ _ _ _ HR3.out.2.1 HR3.out.1.rd).mono ?_;rintro e w5 ⟨v5,rfl,own5,k5⟩;have ka5 : Keeps w5 (w5.alloc (.cells #[.int .i64 0] 33)) [] := (Keeps.refl w5 []).alloc _;obtain ⟨a5,c5,rfl⟩ := own_form own5;have M5 := ((HR3.out.1).keeps k5).keeps ka5;have OD5 := own_keeps (own_keeps HR3.out.2.2.1 k5) ka5;have OF5 := own_keeps own5 ka5;have s5 := own5.lt;have hs35 := k5.size;simp only [World.size_alloc] at hs35;clear hq0 hq1 hq2;obtain ⟨hq2,-⟩ := M5.b1.one;have HR5 := Lib.hid (show _ ∧ _ ∧ _ ∧ _ ∧ _ from ⟨M5,OD5,OF5,s5,hs35⟩);clear ka5 M5 OD5 OF5 s5 own5 k5 hs35)))
     | (go_at_call 175;((refine (HHD.out _ HR5.out.1.rd).mono ?_;rintro e w7 ⟨v7,rfl,own7,k7⟩;obtain ⟨a7,c7,rfl⟩ := own_form own7;have M7 := (HR5.out.1).keeps k7;have OD7 := own_keeps HR5.out.2.1 k7;have OF7 := own_keeps HR5.out.2.2.1 k7;have hs7 := k7.size;clear hq2;have HR7 := Lib.hid (show _ ∧ _ ∧ _ ∧ _ from ⟨M7,OD7,OF7,hs7⟩);have O7 := Lib.hid own7;clear M7 OD7 OF7 own7 k7 hs7)))
     | (go_at_call 67;((refine (HPV.out _ _ (own_reads HR8.out.1)).mono ?_;rintro e w9 ⟨v9,rfl,own9,k9⟩;have ka9 : Keeps w9 (w9.alloc (.cells #[.int .i64 0] 33)) [] := (Keeps.refl w9 []).alloc _;obtain ⟨a9,c9,rfl⟩ := own_form own9;have O9 := own_keeps own9 ka9;have OF9 := own_keeps (own_keeps HR8.out.2 k9) ka9;have hs9 := K8.out.size;have K9 := Lib.hid ((K8.out.then k9).then ka9);have HR9 := Lib.hid (show _ ∧ _ from ⟨own_base O9 hs9,OF9⟩);have Y9 := Lib.hid (young O9);clear own9 k9 ka9 O9 OF9)))
     | (go_at_call 143;(refine (wmust_yes _ _ (Blk.newA (by first | rfl | simp))).mono ?_;rintro e w99 ⟨rfl,rfl⟩))
     | (at_builtin;((refine wpList_appendI (w := w7) rfl _ _ 22 rfl (w5.heap.size + 1) 5 i0 (.int .u8 0) 1 Tryz.underlying22 hi hz0 hz1 hz2 rfl (.slice a7 V1.length c7) V1.length _ rfl (by have := O7.out;unfold OwnB at this;simpa only [World.size_alloc] using this) _ rfl .u8 DS (own_reads HR7.out.2.1) (by have := HDSL.out;unfold maxLen;omega) (by have := HDSL.out;omega) (by have := HR7.out.2.2.2;simpa using this) ?_;intro v8 w8 own8 g8 _;have O8 : OwnB w8 (w5.heap.size + 1) v8 (V1 ++ DS) := ownB_app own8;have k8 := Keeps.of_grown (S := match (Value.slice a7 V1.length c7).ownBlock with | some g => [g] | none => []) g8 (fun k hk => by rw [hk];simp);have Y7 := young O7.out;simp only [World.size_alloc] at Y7;have OF8 := own_old HR7.out.2.2.1 k8 (fun x hx hm => by have := Y7 x hm;have := (HR5.out.2.2.2.1 x hx).2;omega);have hs8 := k8.size;have K8 := Lib.hid (HR7.out.1.kk.trans k8 (fun j hj hl => by have := Y7 j hj;have := HR5.out.1.kk.size;simp only [World.size_alloc] at this;omega));have HR8 := Lib.hid (show _ ∧ _ from ⟨O8,OF8⟩);clear own8 g8 k8 Y7 O8 OF8 hs8)))
     | (at_builtin;((refine wpList_appendI (w := w9.alloc (.cells #[.int .i64 0] 33)) rfl _ _ 22 rfl w.heap.size 5 i0 (.int .u8 0) 1 Tryz.underlying22 hi hz0 hz1 hz2 rfl (.slice a9 V3.length c9) V3.length _ rfl HR9.out.1 _ rfl .u8 FL (own_reads HR9.out.2) (by have := HDSL.out;have := HVF.out;unfold maxLen;omega) (by have := HDSL.out;have := HVF.out;omega) (by have := K9.out.size;exact this) ?_;intro v10 w10 own10 g10 _;have O10 : OwnB w10 w.heap.size v10 (V3 ++ FL) := ownB_app own10;have k10 := Keeps.of_grown (S := match (Value.slice a9 V3.length c9).ownBlock with | some g => [g] | none => []) g10 (fun k hk => by rw [hk];simp);have K10 := Lib.hid (K9.out.trans k10 (fun j hj hl => by have := Y9.out j hj;have := K8.out.size;omega));rw [← HFIN.out] at O10;have O10' := Lib.hid O10;clear own10 g10 k10 O10))))
    go_ret
    exact ⟨_,rfl,O10'.out,K10.out⟩
   ·have hadd : addW l = cntW l := if_neg hO
    have mem := MM.out
    rw [← hadd] at mem
    have hO' : oneW l = false := by simpa using hO
    rw [hO'] at HHAS
    have MEM := Lib.hid mem
    clear hadd hO hO' mem
    go_wp2_with (first
     | (go_at_call 39;(refine HHAS.out.mono ?_;rintro e w1 ⟨rfl,rfl⟩)))
    clear MM
    obtain ⟨wm,rfl⟩ : ∃ x,x = wr := ⟨_,rfl⟩
    have mem := MEM.out
    clear MEM
    obtain ⟨t1,t2,t3,t4,t5,t6,t7,t8,t9,t10,t11⟩ := nmW_ok HL.out H0.out.1
    have hfl := flW_len HL.out H0.out.1 H0.out.2
    have hde := descE_len t1 t4
    have HNO := Lib.hid (nnorm_ok _ (addW l) 6 _ mem.row.reads t9 t7 (by have := H0.out;omega) (by omega) (by decide) t10 (by rw [show (((2 ^ 6 : Nat)) : Int) = 64 by decide];exact t11))
    rw [show (((2 ^ 6 : Nat)) : Int) = 64 by decide,t6,show normF (addW l) 64 (sumZ (addW l)) = nmW l from rfl,← t3] at HNO
    have hsym := t5
    rw [show ((6 : Nat) : Int) = 6 by decide] at HNO
    obtain ⟨NM,hNM⟩ : ∃ x,nmW l = x := ⟨_,rfl⟩
    obtain ⟨FL,hFL⟩ : ∃ x,flW l = x := ⟨_,rfl⟩
    have hFL2 : flowE 6 NM (l.map Int.toNat) = FL := by rw [← hNM];exact hFL
    have hFIN : codedE l = varI l.length ++ [1] ++ descE 6 NM ++ varI FL.length ++ FL := by rw [← hNM,← hFL];rfl
    rw [hNM] at t1 t2 t4 hsym hde HNO
    rw [hFL] at hfl
    have hNMb : ∀ x ∈ NM,-9223372036854775808 ≤ x ∧ x ≤ 9223372036854775807 := tbl_bounds t1
    have hcast : castL (l.map Int.toNat) = l := map_cast HL.out
    have HDE := Lib.hid (fun W u c a (h : RdI .i64 W (.slice a u c) NM) => dencode_ok 6 (.slice a u c) NM W h (okN_of t1 t2) (by decide) t1 t2 hNMb)
    have HFE := Lib.hid (fun W u c a (h : RdI .i64 W (.slice a u c) NM) (hs : RdI .i64 W (.slice A0 i cp) l) => fenc_ok 6 (.slice a u c) (.slice A0 i cp) NM (l.map Int.toNat) W h hNMb t1 (okN_of t1 t2) (by rw [hcast];exact hs) hsym (by rw [List.length_map];have := H0.out;omega))
    rw [hFL2] at HFE
    rw [show ((6 : Nat) : Int) = 6 by decide] at HDE HFE
    obtain ⟨DS,hDS⟩ : ∃ x,descE 6 NM = x := ⟨_,rfl⟩
    rw [hDS] at hFIN hde HDE
    have HHD := Lib.hid (fun W (h : RdI .i64 W (.slice A0 i cp) l) => whead_any (.slice A0 i cp) l 1 W h (by have := H0.out;omega) (by decide) (by decide))
    have hvl : (varI l.length).length ≤ 10 := varI_len 9 l.length (by have := H0.out;omega)
    obtain ⟨V1,hVI⟩ : ∃ x,varI l.length ++ [1] = x := ⟨_,rfl⟩
    have hV1l : V1.length ≤ 11 := by rw [← hVI];simp;omega
    rw [hVI] at HHD hFIN
    have hpe : ¬ 4611686018427387903 < FL.length := by omega
    obtain ⟨V3,hV3⟩ : ∃ x,V1 ++ DS ++ varI FL.length = x := ⟨_,rfl⟩
    rw [hV3] at hFIN
    have hvf := varI_len 9 FL.length (by omega)
    have hV3l : V3.length ≤ 300 := by rw [← hV3];simp;omega
    have HPV := Lib.hid (fun W v (h : RdI .u8 W v (V1 ++ DS)) => (putVarint_any v (V1 ++ DS) FL.length W h (by simp;omega) (by omega)).mono (fun e w' h => show ∃ v,e = .returned (.tuple #[v,.int .i64 0]) ∧ OwnB w' W.heap.size v V3 ∧ Keeps W w' [] by unfold PutEnd at h;rw [if_neg hpe,hV3] at h;exact h))
    have HFIN := Lib.hid hFIN
    have hflw : IntKind.u64.wrap (FL.length : Int) = (FL.length : Int) := by simp [IntKind.wrap,IntKind.signed,IntKind.bits];omega
    have MM := Lib.hid mem
    have HVF : Hid ((varI FL.length).length ≤ 10) := Lib.hid (varI_len 9 FL.length (by omega))
    have HDSL := Lib.hid (show DS.length ≤ 200 ∧ FL.length ≤ 2400 ∧ V1.length ≤ 11 ∧ V3.length ≤ 300 from ⟨hde,hfl,hV1l,hV3l⟩)
    clear t1 t2 t3 t4 t5 t6 t7 t8 t9 t10 t11 hsym hNM hFL hFL2 hFIN hNMb hcast hDS hVI hvl hpe hde hfl mem hV1l hV3 hV3l hvf
    go_wp2_with (first
     | (go_at_call 177;((refine HNO.out.mono ?_;rintro e w1 ⟨a1,c1,rfl,rd1,k1⟩;have mem1 := MM.out.keeps k1;have ka := ((Keeps.refl w1 []).alloc (.cells #[.int .i64 6,.slice a1 NM.length c1] 27)).alloc (.cells #[.int .i64 0] 33);have T1 := (Blk.new w1 #[.int .i64 6,.slice a1 NM.length c1] 27).alloc (.cells #[.int .i64 0] 33);have M1 := mem1.keeps ka;have RD1 := rd1.keeps ka;have HR1 := Lib.hid (show _ ∧ _ ∧ _ from ⟨T1,M1,RD1⟩);clear mem1 rd1 k1 ka T1 M1 RD1)))
     | (go_at_call 66;((refine (HDE.out _ _ _ _ HR1.out.2.2).mono ?_;rintro e w3 ⟨v3,rfl,own3,k3⟩;have ka3 : Keeps w3 (w3.alloc (.cells #[.int .i64 0] 33)) [] := (Keeps.refl w3 []).alloc _;obtain ⟨a3,c3,rfl⟩ := own_form own3;have T3 := ((HR1.out.1).keeps k3 (by simp)).keeps ka3 (by simp);have M3 := ((HR1.out.2.1).keeps k3).keeps ka3;have RD3 := ((HR1.out.2.2).keeps k3).keeps ka3;have OW3 := own_keeps own3 ka3;have s3 := own3.lt;have hq0 := T3.cell 0;have hq1 := T3.cell 1;simp at hq0 hq1;obtain ⟨hq2,-⟩ := M3.b1.one;have HR3 := Lib.hid (show _ ∧ _ ∧ _ ∧ _ from ⟨M3,RD3,OW3,s3⟩);clear ka3 T3 M3 RD3 OW3 s3 own3 k3)))
     | (go_at_call 178;((refine (HFE.out _ _ _ _ HR3.out.2.1 HR3.out.1.rd).mono ?_;rintro e w5 ⟨v5,rfl,own5,k5⟩;have ka5 : Keeps w5 (w5.alloc (.cells #[.int .i64 0] 33)) [] := (Keeps.refl w5 []).alloc _;obtain ⟨a5,c5,rfl⟩ := own_form own5;have M5 := ((HR3.out.1).keeps k5).keeps ka5;have OD5 := own_keeps (own_keeps HR3.out.2.2.1 k5) ka5;have OF5 := own_keeps own5 ka5;have s5 := own5.lt;have hs35 := k5.size;simp only [World.size_alloc] at hs35;clear hq0 hq1 hq2;obtain ⟨hq2,-⟩ := M5.b1.one;have HR5 := Lib.hid (show _ ∧ _ ∧ _ ∧ _ ∧ _ from ⟨M5,OD5,OF5,s5,hs35⟩);clear ka5 M5 OD5 OF5 s5 own5 k5 hs35)))
     | (go_at_call 175;((refine (HHD.out _ HR5.out.1.rd).mono ?_;rintro e w7 ⟨v7,rfl,own7,k7⟩;obtain ⟨a7,c7,rfl⟩ := own_form own7;have M7 := (HR5.out.1).keeps k7;have OD7 := own_keeps HR5.out.2.1 k7;have OF7 := own_keeps HR5.out.2.2.1 k7;have hs7 := k7.size;clear hq2;have HR7 := Lib.hid (show _ ∧ _ ∧ _ ∧ _ from ⟨M7,OD7,OF7,hs7⟩);have O7 := Lib.hid own7;clear M7 OD7 OF7 own7 k7 hs7)))
     | (go_at_call 67;((refine (HPV.out _ _ (own_reads HR8.out.1)).mono ?_;rintro e w9 ⟨v9,rfl,own9,k9⟩;have ka9 : Keeps w9 (w9.alloc (.cells #[.int .i64 0] 33)) [] := (Keeps.refl w9 []).alloc _;obtain ⟨a9,c9,rfl⟩ := own_form own9;have O9 := own_keeps own9 ka9;have OF9 := own_keeps (own_keeps HR8.out.2 k9) ka9;have hs9 := K8.out.size;have K9 := Lib.hid ((K8.out.then k9).then ka9);have HR9 := Lib.hid (show _ ∧ _ from ⟨own_base O9 hs9,OF9⟩);have Y9 := Lib.hid (young O9);clear own9 k9 ka9 O9 OF9)))
     | (go_at_call 143;(refine (wmust_yes _ _ (Blk.newA (by first | rfl | simp))).mono ?_;rintro e w99 ⟨rfl,rfl⟩))
     | (at_builtin;((refine wpList_appendI (w := w7) rfl _ _ 22 rfl (w5.heap.size + 1) 5 i0 (.int .u8 0) 1 Tryz.underlying22 hi hz0 hz1 hz2 rfl (.slice a7 V1.length c7) V1.length _ rfl (by have := O7.out;unfold OwnB at this;simpa only [World.size_alloc] using this) _ rfl .u8 DS (own_reads HR7.out.2.1) (by have := HDSL.out;unfold maxLen;omega) (by have := HDSL.out;omega) (by have := HR7.out.2.2.2;simpa using this) ?_;intro v8 w8 own8 g8 _;have O8 : OwnB w8 (w5.heap.size + 1) v8 (V1 ++ DS) := ownB_app own8;have k8 := Keeps.of_grown (S := match (Value.slice a7 V1.length c7).ownBlock with | some g => [g] | none => []) g8 (fun k hk => by rw [hk];simp);have Y7 := young O7.out;simp only [World.size_alloc] at Y7;have OF8 := own_old HR7.out.2.2.1 k8 (fun x hx hm => by have := Y7 x hm;have := (HR5.out.2.2.2.1 x hx).2;omega);have hs8 := k8.size;have K8 := Lib.hid (HR7.out.1.kk.trans k8 (fun j hj hl => by have := Y7 j hj;have := HR5.out.1.kk.size;simp only [World.size_alloc] at this;omega));have HR8 := Lib.hid (show _ ∧ _ from ⟨O8,OF8⟩);clear own8 g8 k8 Y7 O8 OF8 hs8)))
     | (at_builtin;((refine wpList_appendI (w := w9.alloc (.cells #[.int .i64 0] 33)) rfl _ _ 22 rfl w.heap.size 5 i0 (.int .u8 0) 1 Tryz.underlying22 hi hz0 hz1 hz2 rfl (.slice a9 V3.length c9) V3.length _ rfl HR9.out.1 _ rfl .u8 FL (own_reads HR9.out.2) (by have := HDSL.out;have := HVF.out;unfold maxLen;omega) (by have := HDSL.out;have := HVF.out;omega) (by have := K9.out.size;exact this) ?_;intro v10 w10 own10 g10 _;have O10 : OwnB w10 w.heap.size v10 (V3 ++ FL) := ownB_app own10;have k10 := Keeps.of_grown (S := match (Value.slice a9 V3.length c9).ownBlock with | some g => [g] | none => []) g10 (fun k hk => by rw [hk];simp);have K10 := Lib.hid (K9.out.trans k10 (fun j hj hl => by have := Y9.out j hj;have := K8.out.size;omega));rw [← HFIN.out] at O10;have O10' := Lib.hid O10;clear own10 g10 k10 O10))))
    go_ret
    exact ⟨_,rfl,O10'.out,K10.out⟩


end Go.Proofs.YtcmagccfagijlaaGreat
