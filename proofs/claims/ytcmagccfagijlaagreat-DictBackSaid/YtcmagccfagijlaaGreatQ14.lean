/-
  Walks over package weights: head, halved.
  Slices of booleans in memory: what a slice value reads as; what keeps it; append. No program is in sight here.
  Walks over the reference of bit streams: Bits, Value, Row.
  Walks over the reference of readers of bits: Forward, First, Whole, Backward, Last.
  Walks over the reference of flows: Decode. (Printed by mkWp.py.)
  Walks over package weights: read, reader.number, reader.bytes, the bound method Byte. (Printed by mkVL.py.)
  Walks over package weights: reader.halves.
  Walks over the reference of numbers: Get, Number, Bytes.
  Walks over the reference of descriptions: least, get.
  Walks over the reference of descriptions: norms.
  Walks over the reference of descriptions: Get.
  A description is read from 1024 bytes: further bytes change nothing. (No program in sight.)
  Walks over package weights: tree.
-/
import Derived.Test.YtcmagccfagijlaaGreatQ1
import Derived.Test.YtcmagccfagijlaaGreatQ3
import Derived.Test.YtcmagccfagijlaaGreatQ4
import Derived.Test.YtcmagccfagijlaaGreatQ2
import Derived.Test.YtcmagccfagijlaaGreatRows
import Derived.Test.YtcmagccfagijlaaGreatQ12
import Derived.Test.YtcmagccfagijlaaGreatQ9
import Derived.BigQuiet
import Derived.Test.YtcmagccfagijlaaGreatQ13
import Derived.Test.YtcmagccfagijlaaGreatQ6
import Derived.Test.YtcmagccfagijlaaGreatQ10
import Derived.Test.YtcmagccfagijlaaGreatQ8
import Derived.ArgAppend
namespace Go.Proofs.YtcmagccfagijlaaGreat
set_option linter.unusedVariables false
set_option linter.unusedSimpArgs false
set_option linter.unusedSectionVars false
set_option maxRecDepth 100000
section
open Go.RowKit

theorem one_news {w : World} {b : Nat} {v : Value} {T : TypeId} (h : Blk w b #[v] T) : ∀ (j : Nat) (u : Value),[v][j]? = some u → w.cell? (Addr.add ⟨b,0,none⟩ j) = some u := fun j u hj => by
 cases j with
 | zero =>
  obtain rfl : v = u := by simpa using hj
  exact h.cell 0
 | succ j => simp at hj

theorem keeps_row {w0 w1 w2 : World} {v : Value} (h : Keeps w0 w1 []) (k : Keeps w1 w2 (match v.ownBlock with | some g => [g] | none => [])) (hge : ∀ g,v.ownBlock = some g → w0.heap.size ≤ g) : Keeps w0 w2 [] :=
 h.trans k (fun j hj hlt => by
  cases hv : v.ownBlock with
  | none => rw [hv] at hj;simp at hj
  | some g => rw [hv] at hj;simp at hj;have := hge g hv;omega)

theorem wpList_app1 {P : Program} {w : World} {ops : Array Oper} {rest : List Oper} {o : Oper} {a : Act} {Q : Exit → Act → World → Prop} (hg : o.guard = none) (s x : Operand) (t : TypeId)
  (ho : o.op = .call { callee := .builtin .append,args := #[s,x],argTypes := #[t,t] })
  (base : Nat) (i : TypeInfo) (ht : P.underlying t = some (.slice 5)) (hi : P.info? 5 = some i) (hz : i.zero = some (.int .u8 0)) (hsize : i.size = 1) (hby : i.bytes = 1)
  (v : Value) (n : Nat) (L : List Int) (y : Int) (B : Nat) (hs : a.eval s = v) (hx : a.eval x = .slice (some ⟨B,0,none⟩) 1 1) (hB : w.heap.size = B)
  (hown : w.ownsRow base 5 1 v n (L.map (.int .u8))) (h63 : n ≤ 10000000) (hbase : base ≤ w.heap.size)
  (h : ∀ a' c' w',w'.ownsRow base 5 1 (.slice a' (n + 1) c') (n + 1) ((L ++ [y]).map (.int .u8)) → Keeps w w' (match v.ownBlock with | some g => [g] | none => []) → wpList P ops Q rest (a.put o.dst (.slice a' (n + 1) c')) w') :
  wpList P ops Q (o :: rest) a (w.alloc (.cells #[.int .u8 y] 5)) := by
 subst hB
 refine wpList_append_own _ hg s x t ho base _ i (.int .u8 0) 1 1 ht hi hz hsize hby rfl (by decide) v n (L.map (.int .u8)) hs (own_keeps hown ((Keeps.refl w []).alloc _)) _ 1 1 [.int .u8 y] hx rfl (one_news (Blk.new w _ _)) (by simp [Value.oneCell']) (by unfold maxLen;omega) (by omega) (by simp;omega) ?_
 intro v3 w3 h3 g3 _
 obtain ⟨a3,c3,rfl⟩ := own_form h3
 refine h a3 c3 w3 ?_ ?_
 ·have : L.map (Value.int .u8) ++ [.int .u8 y] = (L ++ [y]).map (Value.int .u8) := by simp
  rw [this] at h3
  exact h3
 ·exact ((Keeps.refl w _).alloc _).trans (Keeps.of_grown g3 (fun k hk => by rw [hk];simp)) (fun j hj _ => hj)

set_option maxHeartbeats 2000000 in
theorem whead_any (v : Value) (l : List Int) (way : Int) (w : World) (hv : RdI .i64 w v l) (hl : l.length ≤ 1000000) (h0 : 0 ≤ way) (h1 : way ≤ 255) :
  Calls Tryz.prog 175 #[v,.int .u8 way] w fun e w' => ∃ v',e = .returned v' ∧ OwnB w' w.heap.size v' (varI l.length ++ [way]) ∧ Keeps w w' [] := by
 obtain ⟨i0,hi,hz0,hz1,hz2⟩ := info_parts Tryz.infoByte
 obtain ⟨ad,n,c,rfl,rfl,-⟩ := hv.form
 clear hv
 have HP := Lib.hid (putVarint_any (.slice none 0 0) [] l.length w .nil (by simp) (by omega))
 have HPE : Hid (∀ e w',PutEnd w [] l.length e w' → ∃ v,e = .returned (.tuple #[v,.int .i64 0]) ∧ OwnB w' w.heap.size v (varI l.length) ∧ Keeps w w' []) := fun e w' h => by
  unfold PutEnd at h
  rw [if_neg (by omega)] at h
  simpa using h
 have hlen := varI_len 9 l.length (by omega)
 have hm : (l.length : Int) % 18446744073709551616 = l.length := by omega
 generalize l.length = N at *
 generalize varI N = L at *
 go_enter Tryz.func175,Tryz.ntmps175
 go_wp2_with (go_at_call 67;refine HP.out.mono ?_;intro e w1 he;obtain ⟨v1,rfl,own1,k1⟩ := HPE.out e w1 he;obtain ⟨a1,c1,rfl⟩ := own_form own1)
 refine (wmust_yes _ _ (Blk.newA rfl)).mono ?_
 rintro e w5 ⟨rfl,rfl⟩
 have ow := own_keeps own1 ((Keeps.refl w1 []).alloc (.cells #[.int .i64 0] 33))
 have k5 := k1.alloc (.cells #[.int .i64 0] 33)
 have hs5 := k5.size
 have hfin : (L ++ [way]).length = L.length + 1 := by simp
 clear own1 he
 generalize L.length = N1 at *
 have OW := Lib.hid ow
 have HF := Lib.hid hfin
 clear ow hfin
 go_wp2_with (at_builtin;(refine wpList_app1 (w := w1.alloc (.cells #[.int .i64 0] 33)) rfl _ _ 22 rfl w.heap.size i0 Tryz.underlying22 hi hz0 hz1 hz2 (.slice a1 N1 c1) N1 L way _ rfl rfl (by simp) OW.out (by omega) hs5 ?_;intro a3 c3 w3 own3 k3))
 go_ret
 exact ⟨_,rfl,by unfold OwnB;rw [HF.out];exact own3,keeps_row k5 k3 (fun g hg => (OW.out.lt g hg).1)⟩

set_option maxHeartbeats 4000000 in
theorem halved_any (v : Value) (l : List Int) (w : World) (hv : RdI .i64 w v l) (hl : l.length ≤ 1000000) (hx : ∀ x ∈ l,0 ≤ x ∧ x ≤ 11) :
  Calls Tryz.prog 144 #[v] w fun e w' => ∃ v',e = .returned v' ∧ OwnB w' w.heap.size v' (halvesL l) ∧ Keeps w w' [] := by
 obtain ⟨i0,hi,hz0,hz1,hz2⟩ := info_parts Tryz.infoByte
 have HV := Lib.hid hv
 have HX := Lib.hid hx
 have HH := Lib.hid (whead_any v l 0 w hv hl (by omega) (by omega))
 obtain ⟨ad,n,c,rfl,hn,-⟩ := hv.form
 have HE : Hid (halvesL l = (varI l.length ++ [0]) ++ nibF (l.take n)) := by show _ = _;rw [hn,List.take_length];rfl
 have hlen := varI_len 9 l.length (by omega)
 have hvp := varI_pos l.length
 have hhl : (varI l.length ++ [0]).length ≤ 11 ∧ 0 < (varI l.length ++ [0]).length := by simp;omega
 generalize varI l.length ++ [0] = hd at *
 have HN := Lib.hid hn
 rw [← hn] at hl
 clear hv hx hn hlen hvp
 go_enter Tryz.func144,Tryz.ntmps144
 go_wp2_with (refine HH.out.mono ?_;rintro e w1 ⟨v1,rfl,own1,k1⟩;obtain ⟨a1,c1,rfl⟩ := own_form own1)
 obtain ⟨g1,rfl,row1⟩ := rowB_own rfl hhl.2 own1
 clear own1 HH
 obtain ⟨N1,hN1⟩ : ∃ N,N = hd.length := ⟨_,rfl⟩
 rw [← hN1] at row1 hhl ⊢
 have HN1 := Lib.hid hN1
 clear hN1
 go_loopw [3,10] (fun v i wr => ∃ (k g N c : Nat),k ≤ n ∧ i = .int .i64 k ∧ v = .slice (some ⟨g,0,none⟩) N c ∧ N ≤ 20 + k ∧ 0 < N ∧ RowB wr w.heap.size g N c (hd ++ nibF (l.take k)) ∧ Keeps w wr []) (fun _ i _ => n - (intOf i).toNat)
 case atStart => exact ⟨0,g1,N1,c1,Nat.zero_le _,rfl,rfl,by omega,by omega,by simpa [nibF] using row1,k1⟩
 case round =>
  clear row1 k1
  obtain ⟨k,g,N,c2,hk,rfl,rfl,hN,hN0,row,kk⟩ := hrel
  by_cases hlt : k < n
  ·obtain ⟨x,hx⟩ : ∃ x,l[k]? = some x := ⟨_,List.getElem?_eq_getElem (by have := HN.out;omega)⟩
   obtain ⟨b,o,rfl,hb,hc⟩ := HV.out.at hx
   have hc' := (kk.cell (p := ⟨b,o + k,none⟩) hb (by simp)).trans hc
   have hcap := HV.out.cap
   have hxb := HX.out x (List.mem_of_getElem? hx)
   have hkn : (k : Int) < (n : Int) := by omega
   have hm : x % 256 = x := by omega
   have hs := kk.size
   have ROW := Lib.hid row
   by_cases hev : k % 2 = 0
   ·have hev' : ((k : Int) % 2 == 0) = true := by simp;omega
    have HT := Lib.hid (nib_take1 hx hev)
    clear hx hc row
    go_wp2_with (at_builtin;(refine wpList_app1 (w := wr) rfl _ _ 22 rfl w.heap.size i0 Tryz.underlying22 hi hz0 hz1 hz2 (.slice (some ⟨g,0,none⟩) N c2) N (hd ++ nibF (l.take k)) x _ rfl rfl rfl ROW.out.2 (by omega) hs ?_;intro a3 c3 w3 own3 k3;obtain ⟨g3,rfl,row3⟩ := rowB_own (L := hd ++ nibF (l.take k) ++ [x]) (by have := ROW.out.1;simp only [List.length_append,List.length_singleton] at this ⊢;omega) (Nat.succ_pos _) own3))
    have kk3 := keeps_row kk k3 (fun g' hg => (ROW.out.2.lt g' hg).1)
    rw [List.append_assoc,← HT.out] at row3
    clear own3 k3
    go_roundw
    case rel => exact ⟨k + 1,g3,N + 1,c3,by omega,by go_num,rfl,by omega,by omega,row3,kk3⟩
    case measure => simp [intOf];omega
   ·obtain ⟨k',rfl⟩ : ∃ k',k = k' + 1 := ⟨k - 1,by omega⟩
    obtain ⟨N',rfl⟩ : ∃ N',N = N' + 1 := ⟨N - 1,by omega⟩
    have hev' : (((k' + 1 : Nat) : Int) % 2 == 0) = false := by simp;omega
    obtain ⟨y,hy⟩ : ∃ y,l[k']? = some y := ⟨_,List.getElem?_eq_getElem (by have := HN.out;omega)⟩
    have hyb := HX.out y (List.mem_of_getElem? hy)
    obtain ⟨q1,q2⟩ := nib_set hd hy hx (by omega)
    have hNl := row.1
    rw [hNl,Nat.add_sub_cancel] at q1 q2
    have cy := row.at q1
    have fy := row.frozen N'
    have hcg := row.cap
    have hgl := row.lt
    have hor := or_nib hyb.1 (by omega) hxb.1 (by omega : x ≤ 15)
    have hw : wrap64 (x * 16) = x * 16 := IntWalk.wrap64_in _ ⟨by omega,by omega⟩
    have hm2 : x * 16 % 256 = x * 16 := by omega
    have row3 := Lib.hid (row.set N' (y + 16 * x))
    rw [q2] at row3
    have kk3 := Lib.hid (kk.setCell (a := ⟨g,N',none⟩) (.inl hgl.1) (.int .u8 (y + 16 * x)))
    clear hx hc row hy q1 q2 hNl
    go_wp2_with fail
    go_roundw
    case rel => exact ⟨k' + 1 + 1,g,N' + 1,c2,by omega,by go_num,rfl,by omega,by omega,row3.out,kk3.out⟩
    case measure => simp [intOf];omega
  ·obtain rfl : k = n := by omega
   rw [← HE.out] at row
   have ROW := Lib.hid row
   have HNN := Lib.hid row.1
   clear row
   go_wp2_with fail
   go_ret
   exact ⟨_,rfl,by unfold OwnB;rw [HNN.out];exact ROW.out.2,kk⟩
end

section
open Go.ChangeShapes Go.WideShapes Go.ChangeAt Go.RowKit

structure RdO (w : World) (v : Value) (l : List Bool) : Prop where
 form : ∃ a n cp,v = .slice a n cp ∧ n = l.length ∧ (a = none → n = 0 ∧ cp = 0) ∧ (0 < n → n ≤ cp ∧ ∃ b o,a = some ⟨b,o,none⟩ ∧ b < w.heap.size ∧ ∀ i x,l[i]? = some x → w.cell? ⟨b,o + i,none⟩ = some (.bool x))

section
variable {w w' : World} {v : Value} {l : List Bool} {a : Option Addr} {n cp : Nat}

theorem RdO.nil : RdO w (.slice none 0 0) [] := ⟨_,_,_,rfl,rfl,fun _ => ⟨rfl,rfl⟩,fun h => absurd h (by omega)⟩
theorem RdO.zero (a : Addr) (c : Nat) : RdO w (.slice (some a) 0 c) [] := ⟨_,_,_,rfl,rfl,(fun h => by cases h),fun h => absurd h (by omega)⟩
theorem RdO.keeps (h : RdO w v l) (kk : Keeps w w' []) : RdO w' v l := by
 obtain ⟨a,n,cp,rfl,hn,h0,hc⟩ := h.form
 refine ⟨a,n,cp,rfl,hn,h0,fun hp => ?_⟩
 obtain ⟨h1,b,o,h2,h3,h4⟩ := hc hp
 exact ⟨h1,b,o,h2,Nat.lt_of_lt_of_le h3 kk.size,fun i x hx => (kk.cell h3 (by simp)).trans (h4 i x hx)⟩
theorem RdO.keepsS {S : List Nat} (h : RdO w v l) (kk : Keeps w w' S) (hn : ∀ ad n cp,v = .slice (some ad) n cp → 0 < n → ad.block ∉ S) : RdO w' v l := by
 obtain ⟨a,n,cp,rfl,hl,h0,hc⟩ := h.form
 refine ⟨a,n,cp,rfl,hl,h0,fun hp => ?_⟩
 obtain ⟨h1,b,o,rfl,h3,h4⟩ := hc hp
 exact ⟨h1,b,o,rfl,Nat.lt_of_lt_of_le h3 kk.size,fun i x hx => (kk.cell (p := ⟨b,o + i,none⟩) h3 (fun hm => hn _ _ _ rfl hp hm)).trans (h4 i x hx)⟩
theorem RdO.len (h : RdO w (.slice a n cp) l) : n = l.length := by
 obtain ⟨a',n',cp',he,hl,-⟩ := h.form
 obtain ⟨h1,h2,h3⟩ := Value.slice.inj he
 rw [h2,hl]
theorem RdO.cap (h : RdO w (.slice a n cp) l) : n ≤ cp := by
 obtain ⟨a',n',cp',he,hl,h0,hc⟩ := h.form
 obtain ⟨h1,h2,h3⟩ := Value.slice.inj he
 subst h1 h2 h3
 by_cases hp : 0 < n
 ·exact (hc hp).1
 ·omega
theorem RdO.nilcap (h : RdO w (.slice none n cp) l) : n = 0 ∧ cp = 0 ∧ l = [] := by
 obtain ⟨a',n',cp',he,hl,h0,hc⟩ := h.form
 obtain ⟨h1,h2,h3⟩ := Value.slice.inj he
 subst h1 h2 h3
 obtain ⟨e1,e2⟩ := h0 rfl
 exact ⟨e1,e2,List.eq_nil_of_length_eq_zero (by omega)⟩
theorem RdO.at (h : RdO w (.slice a n cp) l) {i : Nat} {x : Bool} (hx : l[i]? = some x) : ∃ b o,a = some ⟨b,o,none⟩ ∧ b < w.heap.size ∧ w.cell? ⟨b,o + i,none⟩ = some (.bool x) := by
 obtain ⟨a',n',cp',he,hl,h0,hc⟩ := h.form
 obtain ⟨h1,h2,h3⟩ := Value.slice.inj he
 subst h1 h2 h3
 have hlt := (List.getElem?_eq_some_iff.1 hx).1
 obtain ⟨_,b,o,h2,h3,h4⟩ := hc (by omega)
 exact ⟨b,o,h2,h3,h4 i x hx⟩
theorem RdO.addr (h : RdO w (.slice a n cp) l) (hp : 0 < n) : ∃ b o,a = some ⟨b,o,none⟩ ∧ b < w.heap.size ∧ ∀ i x,l[i]? = some x → w.cell? ⟨b,o + i,none⟩ = some (.bool x) := by
 obtain ⟨a',n',cp',he,hl,h0,hc⟩ := h.form
 obtain ⟨h1,h2,h3⟩ := Value.slice.inj he
 subst h1 h2 h3
 exact (hc hp).2
theorem RdO.drewN (h : RdO w v l) (m : Nat) : RdO (w.drewN m) v l := h.keeps ((Keeps.refl w []).drewN m)

theorem RdO.news {ad : Addr} (h : RdO w (.slice (some ad) n cp) l) : ∀ j u,(l.map (Value.bool))[j]? = some u → w.cell? (ad.add j) = some u := by
 intro j u hj
 rw [List.getElem?_map] at hj
 obtain ⟨x,hx,rfl⟩ := Option.map_eq_some_iff.1 hj
 obtain ⟨b,o,h2,h3,h4⟩ := h.at hx
 cases h2
 have : (⟨b,o,none⟩ : Addr).add j = ⟨b,o + j,none⟩ := by simp [Addr.add]
 rw [this]
 exact h4
end

section
variable {w w' : World} {base g n c : Nat} {L : List Bool}
end
end

section
open Go.RowKit
end

section
open Go.RowKit

structure FR (w : World) (Q G : Nat) (l : List Bool) (r : Nat) : Prop where
 at_ : ∃ vs,Blk w Q #[vs,.int .i64 (r : Int)] 179 ∧ RdO w vs l ∧ ∀ ad n c,vs = .slice (some ad) n c → 0 < n → ad.block = G
 ne : G ≠ Q
 small : r + l.length ≤ 10000000
theorem FR.keeps {w w' : World} {Q G r : Nat} {l : List Bool} {S : List Nat} (h : FR w Q G l r) (k : Keeps w w' S) (h1 : Q ∉ S) (h2 : 0 < l.length → G ∉ S) : FR w' Q G l r := by
 obtain ⟨vs,b,hr,hg⟩ := h.at_
 obtain ⟨a,n,c,rfl,hn,-⟩ := hr.form
 exact ⟨⟨_,b.keeps k h1,hr.keepsS k (fun ad n' c' e h0 => by rw [hg ad n' c' e h0];exact h2 (by injection e;omega)),hg⟩,h.ne,h.small⟩
theorem FR.old {w w' : World} {Q G r N : Nat} {l : List Bool} {S : List Nat} (h : FR w Q G l r) (k : Keeps w w' S) (hQ : Q < N) (hG : 0 < l.length → G < N) (hS : ∀ x ∈ S,N ≤ x) : FR w' Q G l r :=
 h.keeps k (fun hm => by have := hS _ hm;omega) (fun h0 hm => by have := hS _ hm;have := hG h0;omega)
theorem FR.lt {w : World} {Q G r : Nat} {l : List Bool} (h : FR w Q G l r) : Q < w.heap.size := by
 obtain ⟨vs,b,-,-⟩ := h.at_
 exact b.lt

theorem mark_byte : ∀ y : Fin 256,y.val ≠ 0 → Lib.bitLen y.val ≤ 8 ∧ 1 ≤ Lib.bitLen y.val ∧ (bitsN y.val 8)[Lib.bitLen y.val - 1]? = some true ∧ ∀ i : Fin 8,Lib.bitLen y.val ≤ i.val → (bitsN y.val 8)[i.val]? = some false := by decide +kernel

theorem rowBits_at {B : List Int} {m : Nat} {y : Int} (hy : B[m]? = some y) {i : Nat} (hi : i < 8) : (rowBits B)[8 * m + i]? = (bitsN y.toNat 8)[i]? := by
 have h := rowBits_piece (B := B) (i := m) (s := 0) (k := 8) hy (by omega)
 rw [Nat.add_zero,Nat.pow_zero,Nat.div_one] at h
 rw [← h,List.getElem?_take,if_pos hi,List.getElem?_drop]

theorem top_mark {B : List Int} (hB : ∀ x ∈ B,0 ≤ x ∧ x ≤ 255) (h0 : B.getD (B.length - 1) 0 ≠ 0) :
  topB B < 8 * B.length ∧ (rowBits B)[topB B]? = some true ∧ ∀ j,topB B < j → j < 8 * B.length → (rowBits B)[j]? = some false := by
 cases hb : B.length with
 | zero =>
  exfalso
  have : B = [] := List.eq_nil_of_length_eq_zero hb
  subst this
  exact h0 rfl
 | succ m =>
  obtain ⟨y,hy⟩ : ∃ y,B[m]? = some y := ⟨_,List.getElem?_eq_getElem (by omega)⟩
  have hg : B.getD (B.length - 1) 0 = y := by rw [hb,Nat.add_sub_cancel,List.getD_eq_getElem?_getD,hy];rfl
  obtain ⟨y1,y2⟩ := hB y (List.mem_of_getElem? hy)
  obtain ⟨yn,rfl⟩ := Int.eq_ofNat_of_zero_le y1
  obtain ⟨b1,b2,b3,b4⟩ := mark_byte ⟨yn,by omega⟩ (fun h => h0 (by rw [hg];simp at h;subst h;rfl))
  dsimp only at b1 b2 b3 b4
  have e : topB B = 8 * m + (Lib.bitLen yn - 1) := by rw [topB,hg,hb,Int.toNat_natCast];omega
  rw [e]
  refine ⟨by omega,?_,fun j h1 h2 => ?_⟩
  ·rw [rowBits_at hy (by omega),Int.toNat_natCast];exact b3
  ·obtain ⟨i,rfl⟩ : ∃ i,j = 8 * m + i := ⟨j - 8 * m,by omega⟩
   rw [rowBits_at hy (by omega),Int.toNat_natCast]
   exact b4 ⟨i,by omega⟩ (by simp;omega)
end

section
open Go.RowKit

section
variable {g : Int} {nv bv : Value} {norm B : List Int} {n : Nat} {w : World}
end
end

section
open Go.RowKit

def RdEnd (w : World) (p : Nat) (v : Value) (B : List Int) (x : Value) (n : Int) (k' : Nat) (e : Ending) (w' : World) : Prop :=
 (n = 0 → e = .returned x) ∧ (n ≠ 0 → e = .panicked [raisedBy n false]) ∧ Cur w' p v B k' ∧ Keeps w w' [p]
def RdEndB (w : World) (p : Nat) (v : Value) (B : List Int) (L : List Int) (n : Int) (k' : Nat) (e : Ending) (w' : World) : Prop :=
 (n = 0 → ∃ r,e = .returned r ∧ RdI .u8 w' r L ∧ Fresh w.heap.size r) ∧ (n ≠ 0 → e = .panicked [raisedBy n false]) ∧ Cur w' p v B k' ∧ Keeps w w' [p]

set_option maxHeartbeats 2000000 in
theorem wreadInt_any (p k' : Nat) (v : Value) (B : List Int) (w : World) (fs lb : Array Value) (x : Int) (n : Int)
  (hg : Calls Tryz.prog 158 (lb) w (CurEnd w p v B (.int .i64 x) n k')) :
  Calls Tryz.prog 157 #[.func (.func 158) #[] lb] w (RdEnd w p v B (.int .i64 x) n k') := by
 have HG := Lib.hid hg
 clear hg
 by_cases hn : n = 0
 ·subst hn
  go_enter Tryz.func157,Tryz.ntmps157
  go_wp2_with (first | (go_at_call 158;refine HG.out.mono ?_;rintro e w1 ⟨rfl,cur1,k1⟩) | (go_at_call 143;refine (wmust_yes _ _ (Blk.newA rfl)).mono ?_;rintro e w5 ⟨rfl,rfl⟩))
  go_ret
  exact ⟨fun _ => rfl,(fun h => absurd rfl h),cur1.keeps ((Keeps.refl _ _).alloc _),k1.alloc _⟩
 ·go_enter Tryz.func157,Tryz.ntmps157
  go_wp2_with (first | (go_at_call 158;refine HG.out.mono ?_;rintro e w1 ⟨rfl,cur1,k1⟩) | (go_at_call 143;refine (wmust_no n hn _ _ (Blk.newA rfl)).mono ?_;rintro e w5 ⟨rfl,rfl⟩))
  exact ⟨rfl,(fun h => absurd h hn),fun _ => rfl,cur1.keeps ((Keeps.refl _ _).alloc _),k1.alloc _⟩

set_option maxHeartbeats 2000000 in
theorem wreadBytes_any (p k' : Nat) (v : Value) (B : List Int) (w : World) (fs lb : Array Value) (L : List Int) (n : Int)
  (hg : Calls Tryz.prog 186 (lb) w (CurB w p v B L n k')) :
  Calls Tryz.prog 185 #[.func (.func 186) #[] lb] w (RdEndB w p v B L n k') := by
 have HG := Lib.hid hg
 clear hg
 by_cases hn : n = 0
 ·subst hn
  go_enter Tryz.func185,Tryz.ntmps185
  go_wp2_with (first | (go_at_call 186;refine HG.out.mono ?_;rintro e w1 ⟨r1,rfl,rd1,fr1,cur1,k1⟩) | (go_at_call 143;refine (wmust_yes _ _ (Blk.newA rfl)).mono ?_;rintro e w5 ⟨rfl,rfl⟩))
  go_ret
  exact ⟨fun _ => ⟨_,rfl,rd1.keeps ((Keeps.refl _ _).alloc _),fr1⟩,(fun h => absurd rfl h),cur1.keeps ((Keeps.refl _ _).alloc _),k1.alloc _⟩
 ·go_enter Tryz.func185,Tryz.ntmps185
  go_wp2_with (first | (go_at_call 186;refine HG.out.mono ?_;rintro e w1 ⟨r1,rfl,rd1,fr1,cur1,k1⟩) | (go_at_call 143;refine (wmust_no n hn _ _ (Blk.newA rfl)).mono ?_;rintro e w5 ⟨rfl,rfl⟩))
  exact ⟨rfl,(fun h => absurd h hn),fun _ => rfl,cur1.keeps ((Keeps.refl _ _).alloc _),k1.alloc _⟩

set_option maxHeartbeats 2000000 in
theorem wreadByte_any (p k' : Nat) (v : Value) (B : List Int) (w : World) (fs lb : Array Value) (x : Int) (n : Int)
  (hg : Calls Tryz.prog 129 (fs) w (CurEnd w p v B (.int .u8 x) n k')) :
  Calls Tryz.prog 128 #[.func (.func 129) fs #[]] w (RdEnd w p v B (.int .u8 x) n k') := by
 have HG := Lib.hid hg
 clear hg
 by_cases hn : n = 0
 ·subst hn
  go_enter Tryz.func128,Tryz.ntmps128
  go_wp2_with (first | (go_at_call 129;refine HG.out.mono ?_;rintro e w1 ⟨rfl,cur1,k1⟩) | (go_at_call 143;refine (wmust_yes _ _ (Blk.newA rfl)).mono ?_;rintro e w5 ⟨rfl,rfl⟩))
  go_ret
  exact ⟨fun _ => rfl,(fun h => absurd rfl h),cur1.keeps ((Keeps.refl _ _).alloc _),k1.alloc _⟩
 ·go_enter Tryz.func128,Tryz.ntmps128
  go_wp2_with (first | (go_at_call 129;refine HG.out.mono ?_;rintro e w1 ⟨rfl,cur1,k1⟩) | (go_at_call 143;refine (wmust_no n hn _ _ (Blk.newA rfl)).mono ?_;rintro e w5 ⟨rfl,rfl⟩))
  exact ⟨rfl,(fun h => absurd h hn),fun _ => rfl,cur1.keeps ((Keeps.refl _ _).alloc _),k1.alloc _⟩

theorem rnumber1_any (p k hr hm M : Nat)  (v : Value) (B : List Int) (w : World) (hc : Cur w p v B k) (hb : Blk w hr #[.pointer (some ⟨p,0,none⟩)] 164) (hq : Blk w hm #[.int .i64 (M : Int)] 3) (hM : M < 4611686018427387904) :
  Calls Tryz.prog 158 #[.pointer (some ⟨hr,0,none⟩),.pointer (some ⟨hm,0,none⟩)] w (CurEnd w p v B (.int .i64 (numX B k M : Int)) (numE B k M) (numK B k M)) := by
 have H := Lib.hid (number_any p k M v B w hc hM)
 obtain ⟨b0,-⟩ := hb.one
 obtain ⟨m0,-⟩ := hq.one
 clear hc hb hq
 generalize numX B k M = X at *
 generalize numE B k M = E at *
 generalize numK B k M = K at *
 go_enter Tryz.func158,Tryz.ntmps158
 go_wp2_with (refine H.out.mono ?_;rintro e w1 ⟨rfl,cur1,k1⟩)
 exact bodyPost_ret (v := .tuple #[.int .i64 (X : Int),.int .i64 E]) (by simp [results,Tryz.results158]) rfl ⟨rfl,cur1,k1⟩

theorem rnumber_any (p k M : Nat)  (v : Value) (B : List Int) (w : World) (hc : Cur w p v B k) (hM : M < 4611686018427387904) :
  Calls Tryz.prog 124 #[.agg #[.pointer (some ⟨p,0,none⟩)],.int .i64 (M : Int)] w (RdEnd w p v B (.int .i64 (numX B k M : Int)) (numE B k M) (numK B k M)) := by
 have k0 : Keeps w ((w.alloc (.cells #[.pointer (some ⟨p,0,none⟩)] 164)).alloc (.cells #[.int .i64 (M : Int)] 3)) [] := ((Keeps.refl w []).alloc _).alloc _
 have b0 := (Blk.new w #[.pointer (some ⟨p,0,none⟩)] 164).alloc (.cells #[.int .i64 (M : Int)] 3)
 have b1 := Blk.new (w.alloc (.cells #[.pointer (some ⟨p,0,none⟩)] 164)) #[.int .i64 (M : Int)] 3
 simp only [World.size_alloc] at b1
 have H := Lib.hid (wreadInt_any p _ v B _ #[] _ _ _ (rnumber1_any p k w.heap.size (w.heap.size + 1) M v B _ (hc.keeps k0) b0 b1 hM))
 have hs0 := k0.size
 clear hc b0 b1
 generalize numX B k M = X at *
 generalize numE B k M = E at *
 generalize numK B k M = K at *
 by_cases hE : E = 0
 ·subst hE
  go_enter Tryz.func124,Tryz.ntmps124
  go_wp2_with (refine H.out.mono ?_;rintro e w1 ⟨he,-,cur1,k1⟩;obtain rfl := he rfl)
  go_ret
  exact ⟨fun _ => rfl,(fun h => absurd rfl h),cur1,(k0.mono (by simp)).trans k1 (fun j hj _ => hj)⟩
 ·go_enter Tryz.func124,Tryz.ntmps124
  go_wp2_with (refine H.out.mono ?_;rintro e w1 ⟨-,he,cur1,k1⟩;obtain rfl := he hE)
  exact ⟨rfl,(fun h => absurd h hE),fun _ => rfl,cur1,(k0.mono (by simp)).trans k1 (fun j hj _ => hj)⟩

theorem rbytes1_any (p k hr hm  : Nat) (m : Int) (v : Value) (B : List Int) (w : World) (hc : Cur w p v B k) (hb : Blk w hr #[.pointer (some ⟨p,0,none⟩)] 164) (hq : Blk w hm #[.int .i64 m] 3) :
  Calls Tryz.prog 186 #[.pointer (some ⟨hr,0,none⟩),.pointer (some ⟨hm,0,none⟩)] w (CurB w p v B (bytesX B k m) (bytesE B k m) (bytesK B k m)) := by
 have H := Lib.hid (bytes_any p k m v B w hc)
 obtain ⟨b0,-⟩ := hb.one
 obtain ⟨m0,-⟩ := hq.one
 clear hc hb hq
 generalize bytesX B k m = X at *
 generalize bytesE B k m = E at *
 generalize bytesK B k m = K at *
 go_enter Tryz.func186,Tryz.ntmps186
 go_wp2_with (refine H.out.mono ?_;rintro e w1 ⟨r1,rfl,rd1,fr1,cur1,k1⟩)
 exact bodyPost_ret (v := .tuple #[r1,.int .i64 E]) (by simp [results,Tryz.results186]) rfl ⟨r1,rfl,rd1,fr1,cur1,k1⟩

theorem rbytes_any (p k  : Nat) (m : Int) (v : Value) (B : List Int) (w : World) (hc : Cur w p v B k) :
  Calls Tryz.prog 159 #[.agg #[.pointer (some ⟨p,0,none⟩)],.int .i64 m] w (RdEndB w p v B (bytesX B k m) (bytesE B k m) (bytesK B k m)) := by
 have k0 : Keeps w ((w.alloc (.cells #[.pointer (some ⟨p,0,none⟩)] 164)).alloc (.cells #[.int .i64 m] 3)) [] := ((Keeps.refl w []).alloc _).alloc _
 have b0 := (Blk.new w #[.pointer (some ⟨p,0,none⟩)] 164).alloc (.cells #[.int .i64 m] 3)
 have b1 := Blk.new (w.alloc (.cells #[.pointer (some ⟨p,0,none⟩)] 164)) #[.int .i64 m] 3
 simp only [World.size_alloc] at b1
 have H := Lib.hid (wreadBytes_any p _ v B _ #[] _ _ _ (rbytes1_any p k w.heap.size (w.heap.size + 1) m v B _ (hc.keeps k0) b0 b1))
 have hs0 := k0.size
 clear hc b0 b1
 generalize bytesX B k m = X at *
 generalize bytesE B k m = E at *
 generalize bytesK B k m = K at *
 by_cases hE : E = 0
 ·subst hE
  go_enter Tryz.func159,Tryz.ntmps159
  go_wp2_with (refine H.out.mono ?_;rintro e w1 ⟨he,-,cur1,k1⟩;obtain ⟨r1,rfl,rd1,fr1⟩ := he rfl)
  go_ret
  exact ⟨fun _ => ⟨r1,rfl,rd1,fr1.mono hs0⟩,(fun h => absurd rfl h),cur1,(k0.mono (by simp)).trans k1 (fun j hj _ => hj)⟩
 ·go_enter Tryz.func159,Tryz.ntmps159
  go_wp2_with (refine H.out.mono ?_;rintro e w1 ⟨-,he,cur1,k1⟩;obtain rfl := he hE)
  exact ⟨rfl,(fun h => absurd h hE),fun _ => rfl,cur1,(k0.mono (by simp)).trans k1 (fun j hj _ => hj)⟩
end

section
open Go.RowKit

def nibX : List Int → List Int
 | [] => []
 | c :: l => c % 16 :: c / 16 :: nibX l
theorem nibX_append (a b : List Int) : nibX (a ++ b) = nibX a ++ nibX b := by
 induction a with
 | nil => rfl
 | cons c a ih => simp [nibX,ih]
theorem nibX_len (l : List Int) : (nibX l).length = 2 * l.length := by
 induction l with
 | nil => rfl
 | cons c l ih => simp only [nibX,List.length_cons,ih];omega
theorem nibX_next {l : List Int} {k : Nat} {x : Int} (h : l[k]? = some x) : nibX (l.take (k + 1)) = nibX (l.take k) ++ [x % 16,x / 16] := by
 rw [take_next h,nibX_append];rfl
theorem and15_all : ∀ x : Fin 256,bits BinOp.and IntKind.u8 ((x.val : Nat) : Int) 15 = ((x.val % 16 : Nat) : Int) := by decide +kernel
theorem and15 {x : Int} (h0 : 0 ≤ x) (h1 : x ≤ 255) : bits BinOp.and IntKind.u8 x 15 = x % 16 := by
 obtain ⟨a,rfl⟩ := Int.eq_ofNat_of_zero_le h0
 have h := and15_all ⟨a,by omega⟩
 simpa using h

def halvE (B : List Int) (k m : Nat) : Int := if bytesE B k (((m + 1) / 2 : Nat) : Int) ≠ 0 then bytesE B k (((m + 1) / 2 : Nat) : Int) else
 if ((nibX (bytesX B k (((m + 1) / 2 : Nat) : Int)))[m]?).getD 0 = 0 then 0 else 12
def halvX (B : List Int) (k m : Nat) : List Int := (nibX (bytesX B k (((m + 1) / 2 : Nat) : Int))).take m
def HalvEnd (w : World) (p : Nat) (v : Value) (B : List Int) (k m : Nat) (e : Ending) (w' : World) : Prop :=
 (halvE B k m = 0 → ∃ r,e = .returned r ∧ RdI .i64 w' r (halvX B k m) ∧ Fresh w.heap.size r) ∧ (halvE B k m ≠ 0 → e = .panicked [raisedBy (halvE B k m) false]) ∧ Cur w' p v B (bytesK B k (((m + 1) / 2 : Nat) : Int)) ∧ Keeps w w' [p]

theorem two_reads {w : World} {x y : Int} : RdI .i64 (w.alloc (.cells #[.int .i64 x,.int .i64 y] 3)) (.slice (some ⟨w.heap.size,0,none⟩) 2 2) [x,y] := by
 refine ⟨_,_,_,rfl,rfl,(fun h => by cases h),fun _ => ⟨Nat.le_refl _,w.heap.size,0,rfl,by simp,fun i z hz => ?_⟩⟩
 have hb := Blk.new w #[.int .i64 x,.int .i64 y] 3
 rw [Nat.zero_add,hb.cell]
 rcases i with _ | _ | i
 ·simp at hz;subst hz;rfl
 ·simp at hz;subst hz;rfl
 ·simp at hz

set_option maxHeartbeats 4000000 in
theorem rhalves_short (p k m : Nat) (v : Value) (B : List Int) (w : World) (hc : Cur w p v B k) (hm : m ≤ 1000) (hE : bytesE B k (((m + 1) / 2 : Nat) : Int) ≠ 0) :
  Calls Tryz.prog 126 #[.agg #[.pointer (some ⟨p,0,none⟩)],.int .i64 (m : Int)] w (HalvEnd w p v B k m) := by
 have h0 : halvE B k m = bytesE B k (((m + 1) / 2 : Nat) : Int) := if_pos hE
 have hend : Hid (∀ e w',e = .panicked [raisedBy (bytesE B k (((m + 1) / 2 : Nat) : Int)) false] → Cur w' p v B (bytesK B k (((m + 1) / 2 : Nat) : Int)) → Keeps w w' [p] → HalvEnd w p v B k m e w') := fun e w' h1 h2 h3 => ⟨(fun h => absurd (h0 ▸ h) hE),(fun _ => by rw [h0];exact h1),h2,h3⟩
 have k0 : Keeps w (w.alloc (.cells #[.agg #[.pointer (some ⟨p,0,none⟩)]] 164)) [] := (Keeps.refl w []).alloc _
 have k0' : Keeps w (w.alloc (.cells #[.pointer (some ⟨p,0,none⟩)] 164)) [] := (Keeps.refl w []).alloc _
 have H := Lib.hid (rbytes_any p k (((m + 1) / 2 : Nat) : Int) v B _ (hc.keeps k0'))
 obtain ⟨q,hq⟩ : ∃ q,q = (m + 1) / 2 := ⟨_,rfl⟩
 have hqi : ((m : Int) + 1) / 2 = (q : Int) := by omega
 rw [← hq] at H hE hend
 clear hc hq h0
 go_enter Tryz.func126,Tryz.ntmps126
 go_wp2_with (refine H.out.mono ?_;rintro e w1 ⟨-,he,cur1,k1⟩;obtain rfl := he hE)
 exact ⟨rfl,hend.out _ _ rfl cur1 ((k0'.mono (by simp)).trans k1 (fun j hj _ => hj))⟩

theorem bytesX_len {B : List Int} {k q : Nat} (hk : k ≤ B.length) (h : bytesE B k (q : Int) = 0) : (bytesX B k (q : Int)).length = q := by
 have h1 : ¬ (B.length : Int) - (k : Int) < (q : Int) := by
  intro hc
  unfold bytesE at h
  rw [if_neg (by omega),if_pos hc] at h
  cases h
 rw [bytesX,if_pos h,Int.toNat_natCast]
 simp
 omega
theorem bytesX_mem {B : List Int} {k : Nat} {m x : Int} (h : x ∈ bytesX B k m) : x ∈ B := by
 unfold bytesX at h
 split at h
 ·exact List.mem_of_mem_drop (List.mem_of_mem_take h)
 ·cases h

set_option maxHeartbeats 4000000 in
theorem rhalves_ok (p k m : Nat) (v : Value) (B : List Int) (w : World) (hc : Cur w p v B k) (hm0 : 0 < m) (hm : m ≤ 1000) (hE : bytesE B k (((m + 1) / 2 : Nat) : Int) = 0) :
  Calls Tryz.prog 126 #[.agg #[.pointer (some ⟨p,0,none⟩)],.int .i64 (m : Int)] w (HalvEnd w p v B k m) := by
 obtain ⟨i0,hi,hz0,hz1,hz2⟩ := info_parts Tryz.infoInt
 have k0' : Keeps w (w.alloc (.cells #[.pointer (some ⟨p,0,none⟩)] 164)) [] := (Keeps.refl w []).alloc _
 have H := Lib.hid (rbytes_any p k (((m + 1) / 2 : Nat) : Int) v B _ (hc.keeps k0'))
 have hll := bytesX_len (q := (m + 1) / 2) hc.le hE
 have hxb : ∀ x ∈ bytesX B k (((m + 1) / 2 : Nat) : Int),0 ≤ x ∧ x ≤ 255 := fun x hx => hc.byte x (bytesX_mem hx)
 obtain ⟨L,hL⟩ : ∃ L,L = bytesX B k (((m + 1) / 2 : Nat) : Int) := ⟨_,rfl⟩
 have hend : Hid (∀ e w',Cur w' p v B (bytesK B k (((m + 1) / 2 : Nat) : Int)) → Keeps w w' [p] → ((((nibX L)[m]?).getD 0 = 0 → ∃ r,e = .returned r ∧ RdI .i64 w' r ((nibX L).take m) ∧ Fresh w.heap.size r) ∧ (((nibX L)[m]?).getD 0 ≠ 0 → e = .panicked [raisedBy 12 false])) → HalvEnd w p v B k m e w') := fun e w' h1 h2 h3 => by
  have hx : halvX B k m = (nibX L).take m := by rw [hL];rfl
  have he : halvE B k m = if ((nibX L)[m]?).getD 0 = 0 then 0 else 12 := by rw [hL];unfold halvE;rw [if_neg (by rw [hE];simp)]
  by_cases hz : ((nibX L)[m]?).getD 0 = 0
  ·rw [if_pos hz] at he
   exact ⟨fun _ => by rw [hx];exact h3.1 hz,(fun h => absurd he h),h1,h2⟩
  ·rw [if_neg hz] at he
   exact ⟨(fun h => by rw [he] at h;cases h),(fun _ => by rw [he];exact h3.2 hz),h1,h2⟩
 rw [hE,← hL] at H
 rw [← hL] at hll hxb
 have HX := Lib.hid hxb
 have HLL := Lib.hid hll
 generalize bytesK B k (((m + 1) / 2 : Nat) : Int) = K at *
 obtain ⟨q,hq⟩ : ∃ q,q = (m + 1) / 2 := ⟨_,rfl⟩
 have hqi : ((m : Int) + 1) / 2 = (q : Int) := by omega
 rw [← hq] at H HLL
 have HQ := Lib.hid hq
 clear hc hE hL hxb hll hq
 go_enter Tryz.func126,Tryz.ntmps126
 go_wp2_with (go_at_call 159;(refine H.out.mono ?_;rintro e w1 ⟨he,-,cur1,k1⟩;obtain ⟨r1,rfl,rd1,fr1⟩ := he rfl;obtain ⟨a1,n1,c1,rfl,-,-⟩ := rd1.form))
 have hn1 : n1 = q := by have := rd1.len;have := HLL.out;omega
 subst hn1
 have kk1 := (k0'.mono (S' := [p]) (by simp)).trans k1 (fun j hj _ => hj)
 have hs1 := kk1.size
 have RD := Lib.hid rd1
 have CUR := Lib.hid cur1
 have FR := Lib.hid (fr1.mono (b' := w.heap.size) (by simp))
 clear rd1 cur1 fr1 H
 go_loopw [4,13] (fun o i wr => ∃ (t : Nat) (a : Option Addr) (c : Nat),t ≤ n1 ∧ i = .int .i64 t ∧ o = .slice a (2 * t) c ∧ wr.ownsRow w1.heap.size 3 1 (.slice a (2 * t) c) (2 * t) ((nibX (L.take t)).map (.int .i64)) ∧ Keeps w1 wr []) (fun _ i _ => n1 - (intOf i).toNat)
 case atStart => exact ⟨0,none,0,Nat.zero_le _,rfl,rfl,by simpa [nibX] using World.ownsRow_nil _ _ _ _,Keeps.refl _ _⟩
 case round =>
  obtain ⟨t,a,c,ht,rfl,rfl,own,kk⟩ := hrel
  by_cases hlt : t < n1
  ·obtain ⟨x,hx⟩ : ∃ x,L[t]? = some x := ⟨_,List.getElem?_eq_getElem (by have := HLL.out;omega)⟩
   obtain ⟨b,o,rfl,hb,hcx⟩ := RD.out.at hx
   have hcx' := (kk.cell (p := ⟨b,o + t,none⟩) hb (by simp)).trans hcx
   have hcap := RD.out.cap
   have hxb := HX.out x (List.mem_of_getElem? hx)
   have htn : (t : Int) < (n1 : Int) := by omega
   have hand := and15 hxb.1 hxb.2
   have hs := kk.size
   have OW := Lib.hid (own_keeps own ((Keeps.refl wr []).alloc (.cells #[.int .i64 (x % 16),.int .i64 (x / 16)] 3)))
   have TW := Lib.hid (two_reads (w := wr) (x := x % 16) (y := x / 16))
   have HN := Lib.hid (nibX_next hx)
   have hge := Lib.hid (fun g (hg : (Value.slice a (2 * t) c).ownBlock = some g) => (own.lt g hg).1)
   clear hx hcx own
   go_wp2_with (at_builtin;(refine wpList_appendI rfl _ _ 25 rfl w1.heap.size 3 i0 (.int .i64 0) 8 Tryz.underlying25 hi hz0 hz1 hz2 rfl (.slice a (2 * t) c) (2 * t) _ rfl OW.out _ rfl .i64 [x % 16,x / 16] TW.out (by simp;unfold maxLen;omega) (by simp;omega) (by simp;omega) ?_;intro v3 w3 own3 g3 _;obtain ⟨a3,c3,rfl⟩ := own_form own3))
   have HNX := HN.out
   refine ⟨⟨t + 1,a3,c3,by omega,rfl,rfl,?_,keeps_row kk (((Keeps.refl wr _).alloc _).trans (Keeps.of_grown g3 (fun k hk => by rw [hk];simp)) (fun j hj _ => hj)) hge.out⟩,by simp [intOf];omega⟩
   rw [HNX,List.map_append]
   exact own3
  ·obtain rfl : t = n1 := by omega
   have htake : L.take t = L := List.take_of_length_le (by have := HLL.out;omega)
   rw [htake] at own
   have hnl : (nibX L).length = 2 * t := by rw [nibX_len,HLL.out]
   have kf := kk1.trans kk (fun j hj _ => by cases hj)
   have CURF := Lib.hid (CUR.out.keeps kk)
   have RDX := Lib.hid (own_reads (l := nibX L) (by rw [hnl];exact own))
   have htn : decide ((t : Int) < (t : Int)) = false := by simp
   obtain ⟨g,ha,hgb⟩ : ∃ g,a = some ⟨g,0,none⟩ ∧ w1.heap.size ≤ g := by
    rcases own.2 with ⟨h1,h2⟩ | ⟨g,cp,cur,h1,h2,-⟩
    ·have := HQ.out;omega
    ·cases h1;exact ⟨g,rfl,h2⟩
   subst ha
   have hcap := RDX.out.cap
   have hcell : ∀ i x,(nibX L)[i]? = some x → wr.cell? ⟨g,i,none⟩ = some (.int .i64 x) := fun i x hx => by
    obtain ⟨b',o',he,-,hc'⟩ := RDX.out.at hx
    cases he
    rw [Nat.zero_add] at hc'
    exact hc'
   have HPC := Lib.hid (fun (hmt : 0 + m ≤ 2 * t) => RDX.out.piece (p := 0) (q := m) hmt m (Nat.le_refl _))
   have HEND := hend.out
   by_cases hev : m = 2 * t
   ·have hnone : ((nibX L)[m]?).getD 0 = 0 := by rw [List.getElem?_eq_none (by omega)];rfl
    have HP := Lib.hid (HPC.out (by omega))
    have HFIN := Lib.hid (fun e w' h1 h2 h3 => HEND e w' h1 h2 ⟨fun _ => h3,fun h => absurd hnone h⟩)
    have hcm : m ≤ c := by omega
    rw [← hev] at hcap ⊢
    clear hend HEND HPC RDX own hcell hnone hnl htake hev HLL HX HQ
    go_wp2_with (go_at_call 125;(refine (wis_yes (by simp) 12 _).mono ?_;rintro e w9 ⟨rfl,rfl⟩))
    go_ret
    refine HFIN.out _ _ CURF.out kf ⟨_,rfl,?_,?_⟩
    ·simpa using HP.out
    ·intro ad n' c' he
     simp at he
     obtain ⟨he,-,-⟩ := he
     rw [← he]
     dsimp only
     omega
   ·have hod : 2 * t = m + 1 := by have := HQ.out;omega
    obtain ⟨y,hy⟩ : ∃ y,(nibX L)[m]? = some y := ⟨_,List.getElem?_eq_getElem (by omega)⟩
    have hcy := hcell m y hy
    have HP := Lib.hid (HPC.out (by omega))
    rw [hod] at hcap ⊢
    have hmm : ((m : Int) + 1 == (m : Int)) = false := by simp;omega
    have hmlt : (m : Int) < (m : Int) + 1 := by omega
    by_cases hy0 : y = 0
    ·subst hy0
     have HFIN := Lib.hid (fun e w' h1 h2 h3 => HEND e w' h1 h2 ⟨fun _ => h3,fun h => absurd (by rw [hy];rfl) h⟩)
     clear hend HEND HPC RDX own hcell hnl htake hod HLL HX HQ hy hev
     go_wp2_with (go_at_call 125;(refine (wis_yes (by simp) 12 _).mono ?_;rintro e w9 ⟨rfl,rfl⟩))
     go_ret
     refine HFIN.out _ _ CURF.out kf ⟨_,rfl,?_,?_⟩
     ·simpa using HP.out
     ·intro ad n' c' he
      simp at he
      obtain ⟨he,-,-⟩ := he
      rw [← he]
      dsimp only
      omega
    ·have hy0' : (y == 0) = false := by simpa using hy0
     have HFIN := Lib.hid (fun e w' h1 h2 h3 => HEND e w' h1 h2 ⟨fun h => absurd h (by rw [hy];exact hy0),fun _ => h3⟩)
     clear hend HEND HPC RDX own hcell hnl htake hod HLL HX HQ hy hev
     go_wp2_with (go_at_call 125;(refine (wis_no (by simp [hy0]) 12 _).mono ?_;rintro e w9 ⟨rfl,rfl⟩))
     exact ⟨rfl,HFIN.out _ _ CURF.out kf rfl⟩

theorem rhalves_any (p k m : Nat) (v : Value) (B : List Int) (w : World) (hc : Cur w p v B k) (hm0 : 0 < m) (hm : m ≤ 1000) :
  Calls Tryz.prog 126 #[.agg #[.pointer (some ⟨p,0,none⟩)],.int .i64 (m : Int)] w (HalvEnd w p v B k m) := by
 by_cases hE : bytesE B k (((m + 1) / 2 : Nat) : Int) = 0
 ·exact rhalves_ok p k m v B w hc hm0 hm hE
 ·exact rhalves_short p k m v B w hc hm hE
end

section
open Go.RowKit

theorem varR_succ (B : List Int) (f i a k : Nat) : varR B (f + 1) i a k = if k < B.length then
   if 128 ≤ byteX B k then varR B f (i + 1) (a + (byteX B k).toNat % 128 * 2 ^ (7 * i)) (k + 1)
   else if byteX B k = 0 ∧ 0 < i then (0,5,k + 1)
   else if 4611686018427387903 < a + (byteX B k).toNat % 128 * 2 ^ (7 * i) then (0,18,k + 1)
   else (a + (byteX B k).toNat % 128 * 2 ^ (7 * i),0,k + 1)
  else (0,3,k) := rfl
end

section
open Go.RowKit
end

section
open Go.RowKit
end

section
open Go.RowKit
end

section
theorem descP_app (A Z : List Int) (symbols : Nat) (log : Int) (hs : symbols ≤ 256) (hA : 1024 ≤ A.length) : descP (A ++ Z) symbols log = descP A symbols log := by
 have hl := rowBits_len A
 have hz := rowBits_len Z
 unfold descP tabP
 rw [rowBits_append,tk_app (by omega)]
 cases ht : tk (rowBits A) 4 with
 | error e => rfl
 | ok x =>
  obtain ⟨n,L1⟩ := x
  obtain ⟨-,h2⟩ := tk_lt ht
  simp only [more]
  by_cases hb : log < (n : Int) + 1 ∨ 8 < n
  ·rw [if_pos hb,if_pos hb]
  ·rw [if_neg hb,if_neg hb]
   have hn : n ≤ 8 := by omega
   have hp : 2 ^ (n + 1) ≤ 2 ^ 9 := Nat.pow_le_pow_right (by omega) (by omega)
   rw [normsP_app (by omega) (by simp only [List.length_nil];omega)]
   cases normsP symbols (symbols + 1) L1 (2 ^ (n + 1)) [] false with
   | error e => rfl
   | ok y =>
    obtain ⟨l,L2⟩ := y
    simp only [more,tabOf]
    have e1 : (L2 ++ rowBits Z).length % 8 = L2.length % 8 := by rw [List.length_append,hz];omega
    have e2 : (A ++ Z).length - (L2 ++ rowBits Z).length / 8 = A.length - L2.length / 8 := by rw [List.length_append,List.length_append,hz];omega
    rw [e1,e2,List.take_append_of_le_length (by omega)]

theorem descP_cut (D : List Int) (symbols : Nat) (log : Int) (hs : symbols ≤ 256) : descP (D.take 1024) symbols log = descP D symbols log := by
 by_cases h : D.length ≤ 1024
 ·rw [List.take_of_length_le h]
 ·have := descP_app (D.take 1024) (D.drop 1024) symbols log hs (by rw [List.length_take];omega)
  rw [List.take_append_drop] at this
  exact this.symm
end

section
open Go.RowKit

theorem own_some {w : World} {base e size n c : Nat} {ad : Option Addr} {xs : List Value} (hn : 0 < n) (h : w.ownsRow base e size (.slice ad n c) n xs) : ∃ g,ad = some ⟨g,0,none⟩ ∧ base ≤ g := by
 rcases h.2 with h2 | ⟨g,cap,cur,h1,h2,-⟩
 ·obtain ⟨h2,-⟩ := h2
  cases h2;omega
 ·cases h1
  exact ⟨g,rfl,h2⟩
theorem blen_call (n : Nat) (hn : n ≤ 4294967295) (w : World) : Calls Tryz.prog 163 #[.int .u64 (n : Int)] w fun e w' => e = .returned (.int .i64 (Go.Lib.bitLen n)) ∧ w = w' :=
 (Tryz.bits_Len (n : Int) w (by omega) (by omega)).mono fun e w' h => ⟨by rw [h.1,Int.toNat_natCast],h.2.symm⟩
theorem has_call (v : Value) (l : List Int) (x : Int) (w : World) (hv : RdI .i64 w v l) (hn : l.length ≤ 1000000) : Calls Tryz.prog 164 #[v,.int .i64 x] w fun e w' => e = .returned (.bool (l.contains x)) ∧ w = w' := by
 obtain ⟨a,n,c,rfl,hl,-⟩ := hv.form
 by_cases h0 : 0 < n
 ·obtain ⟨b,o,rfl,hb,hc⟩ := hv.addr h0
  have h := Tryz.slices_Contains_int b o n c l x w (by omega) (by omega) (fun j hj => by
   rw [List.getD_eq_getElem?_getD,List.getElem?_eq_getElem hj]
   exact hc j _ (List.getElem?_eq_getElem hj))
  rw [List.take_of_length_le (by omega)] at h
  exact h.mono fun e w' h => ⟨h.1,h.2.symm⟩
 ·obtain rfl : n = 0 := by omega
  obtain rfl : l = [] := List.eq_nil_of_length_eq_zero hl.symm
  exact (Tryz.slices_Contains_int_empty a c x w).mono fun e w' h => ⟨h.1,h.2.symm⟩

theorem pow_sum {S X : Nat} (hX : X ≤ 11) (hS : S ≤ 1000000) : wrap64 ((S : Int) + wrap64 ((2 : Int) ^ X) / 2) = ((S + (if 0 < (X : Int) then 2 ^ (X - 1) else 0) : Nat) : Int) := by
 have h : X = 0 ∨ X = 1 ∨ X = 2 ∨ X = 3 ∨ X = 4 ∨ X = 5 ∨ X = 6 ∨ X = 7 ∨ X = 8 ∨ X = 9 ∨ X = 10 ∨ X = 11 := by omega
 rcases h with rfl | rfl | rfl | rfl | rfl | rfl | rfl | rfl | rfl | rfl | rfl | rfl <;> simp [wrap64] <;> omega
theorem pow_k {K : Nat} (hK : K ≤ 20) : wrap64 ((2 : Int) ^ K) = ((2 ^ K : Nat) : Int) ∧ 2 ^ K ≤ 1048576 := by
 have h2 : (2:Nat) ^ K ≤ 2 ^ 20 := Nat.pow_le_pow_right (by decide) hK
 have h3 : (2 : Nat) ^ 20 = 1048576 := by decide
 rw [h3] at h2
 have h4 : ((2 : Int) ^ K) = ((2 ^ K : Nat) : Int) := by simp
 refine ⟨?_,h2⟩
 rw [h4]
 generalize 2 ^ K = N at *
 exact IntWalk.wrap64_in _ ⟨by omega,by omega⟩

def trF (f : Int → Int) (l : List Int) (k : Nat) : List Int := (l.take k).map f ++ l.drop k
theorem trF_zero (f : Int → Int) (l : List Int) : trF f l 0 = l := by simp [trF]
theorem trF_all (f : Int → Int) {l : List Int} {k : Nat} (h : l.length ≤ k) : trF f l k = l.map f := by simp [trF,List.take_of_length_le h,List.drop_eq_nil_of_le h]
theorem trF_get {f : Int → Int} {l : List Int} {k : Nat} {x : Int} (h : l[k]? = some x) : (trF f l k)[k]? = some x := by
 have hk := (List.getElem?_eq_some_iff.1 h).1
 have hl : ((l.take k).map f).length = k := by simp;omega
 unfold trF
 rw [List.getElem?_append_right (by omega),hl,Nat.sub_self,List.getElem?_drop,Nat.add_zero,h]
theorem trF_set {f : Int → Int} {l : List Int} {k : Nat} {x : Int} (h : l[k]? = some x) : (trF f l k).set k (f x) = trF f l (k + 1) := by
 obtain ⟨hk,hx⟩ := List.getElem?_eq_some_iff.1 h
 have hl : ((l.take k).map f).length = k := by simp;omega
 unfold trF
 rw [List.set_append_right _ _ (by omega),hl,Nat.sub_self,List.drop_eq_getElem_cons hk,List.set_cons_zero,take_next h]
 simp
theorem trF_same {f : Int → Int} {l : List Int} {k : Nat} {x : Int} (h : l[k]? = some x) (h0 : f x = x) : trF f l (k + 1) = trF f l k := by
 obtain ⟨hk,hx⟩ := List.getElem?_eq_some_iff.1 h
 unfold trF
 rw [take_next h,List.drop_eq_getElem_cons hk,hx]
 simp [h0]

def TreeEnd (w : World) (l : List Int) (e : Ending) (w' : World) : Prop := Keeps w w' [] ∧ (okW l = true → ∃ v,e = .returned (.tuple #[v,.int .i64 (vW l)]) ∧ RdI .i64 w' v (tOf l) ∧ Fresh w.heap.size v) ∧ (okW l = false → e = .panicked [raisedBy 12 false])
theorem TreeEnd.no {w w' : World} {l : List Int} (h : okW l = false) (k : Keeps w w' []) : TreeEnd w l (.panicked [raisedBy 12 false]) w' := ⟨k,(fun h' => by rw [h] at h';cases h'),fun _ => rfl⟩

theorem wtree_len (v : Value) (l : List Int) (w : World) (hv : RdI .i64 w v l) (hn : l.length ≤ 1000000) (h : lenW l = false) : Calls Tryz.prog 130 #[v] w (TreeEnd w l) := by
 have HK : Hid (okW l = false) := by show _ = _;simp [okW,h]
 obtain ⟨A0,n,cp0,rfl,hnl,-⟩ := hv.form
 have hc : n = 0 ∨ 255 < n := by simp [lenW] at h;omega
 have HC := Lib.hid hc
 have hn' : n ≤ 1000000 := by omega
 clear hv hnl hn h hc
 rcases HC.out with rfl | hc
 ·go_enter Tryz.func130,Tryz.ntmps130
  go_wp2_with fail
  refine (wis_no (by simp) 12 _).mono ?_
  rintro e w1 ⟨rfl,rfl⟩
  go_wp2_with fail
  exact ⟨rfl,TreeEnd.no HK.out (Keeps.refl _ _)⟩
 ·have d1 : decide ((n : Int) < 256) = false := decide_eq_false (by omega)
  have d2 : decide ((0 : Int) < n) = true := decide_eq_true (by omega)
  go_enter Tryz.func130,Tryz.ntmps130
  go_wp2_with fail
  refine (wis_no (by simp [*]) 12 _).mono ?_
  rintro e w1 ⟨rfl,rfl⟩
  go_wp2_with fail
  exact ⟨rfl,TreeEnd.no HK.out (Keeps.refl _ _)⟩

set_option maxHeartbeats 4000000 in
theorem wtree_any (v : Value) (l : List Int) (w : World) (hv : RdI .i64 w v l) (hn : l.length ≤ 1000000) : Calls Tryz.prog 130 #[v] w (TreeEnd w l) := by
 cases hlen : lenW l with
 | false => exact wtree_len v l w hv hn hlen
 | true =>
 have HLEN := Lib.hid hlen
 obtain ⟨A0,n,cp0,rfl,hnl,-⟩ := hv.form
 have hc : 0 < n ∧ n < 256 := by simp [lenW] at hlen;omega
 obtain ⟨b,o,rfl,hb,hcell⟩ := hv.addr hc.1
 have hcap := hv.cap
 have HV := Lib.hid hv
 have HN := Lib.hid hnl
 have HCELL := Lib.hid hcell
 have hn0 : 0 < n := hc.1
 have hn1 : n < 256 := hc.2
 have d1 : decide ((n : Int) < 256) = true := decide_eq_true (by omega)
 have d2 : decide ((0 : Int) < n) = true := decide_eq_true (by omega)
 obtain ⟨i0,hi,hz0,hz1,hz2⟩ := info_parts Tryz.infoInt
 clear hv hnl hn hlen hc hcell
 go_enter Tryz.func130,Tryz.ntmps130
 go_wp2_with fail
 refine (wis_yes (by simp [*]) 12 _).mono ?_
 rintro e w1 ⟨rfl,rfl⟩
 clear d1 d2
 have Hi := Lib.hid hi
 clear hi
 go_wp2_with fail
 go_loop [4,22] (fun s i => ∃ k : Nat,k ≤ n ∧ i = .int .i64 k ∧ s = .int .i64 (sumW (l.take k) : Nat) ∧ Hid ((l.take k).all (finM 11) = true)) (fun _ i => n - (intOf i).toNat)
 case atStart => exact ⟨0,Nat.zero_le _,rfl,rfl,by simp [Hid]⟩
 case round =>
  obtain ⟨k,hk,rfl,rfl,hall⟩ := hrel
  by_cases hlt : k < n
  ·obtain ⟨x,hx⟩ : ∃ x,l[k]? = some x := ⟨_,List.getElem?_eq_getElem (by have := HN.out;omega)⟩
   have hc := HCELL.out k x hx
   have hkn : (k : Int) < (n : Int) := by omega
   have HST := Lib.hid (sumW_take hx)
   have HAL : Hid (finM 11 x = true → (l.take (k + 1)).all (finM 11) = true) := fun h => by rw [take_next hx,List.all_append,hall.out];simp [h]
   have hs1 := sumW_le hall.out
   have hs2 : (l.take k).length ≤ k := List.length_take_le _ _
   have HBAD : Hid (finM 11 x = false → okW l = false) := fun h => by
    rw [Bool.eq_false_iff]
    intro ht
    simp only [okW,Bool.and_eq_true] at ht
    have := List.all_eq_true.1 ht.1.1.2 x (List.mem_of_getElem? hx)
    rw [h] at this;cases this
   obtain ⟨S,hS⟩ : ∃ S,S = sumW (l.take k) := ⟨_,rfl⟩
   rw [← hS] at hs1 HST ⊢
   have hS9 : S ≤ 1000000 := by omega
   clear hx hS hs1 hs2
   by_cases hx0 : 0 ≤ x
   ·obtain ⟨X,rfl⟩ := Int.eq_ofNat_of_zero_le hx0
    have d0 : decide ((0 : Int) ≤ (X : Int)) = true := decide_eq_true (by omega)
    by_cases hX : X ≤ 11
    ·have hX' : (X : Int) ≤ 11 := by omega
     have NAL := Lib.hid (HAL.out (finM_iff.2 ⟨by omega,by omega⟩))
     have HSUM : Hid (wrap64 ((S : Int) + wrap64 ((2 : Int) ^ X) / 2) = ((sumW (l.take (k + 1)) : Nat) : Int)) := by
      show _ = _
      rw [pow_sum hX hS9,HST.out,Int.toNat_natCast]
     clear HBAD HAL HST hS9
     go_wp2_with fail
     refine (wis_yes (by simp [*]) 12 _).mono ?_
     rintro e w5 ⟨rfl,rfl⟩
     go_wp2_with fail
     go_round
     case rel => exact ⟨k + 1,by omega,by go_num,by rw [HSUM.out],NAL⟩
     case measure => simp [intOf];omega
    ·have dX : decide ((X : Int) ≤ 11) = false := decide_eq_false (by omega)
     have NO := Lib.hid (HBAD.out (by simp [finM];omega))
     clear HBAD HAL HST hS9
     go_wp2_with fail
     refine (wis_no (by simp [*]) 12 _).mono ?_
     rintro e w5 ⟨rfl,rfl⟩
     go_wp2_with fail
     exact ⟨rfl,TreeEnd.no NO.out (Keeps.refl _ _)⟩
   ·have d0 : decide (0 ≤ x) = false := decide_eq_false (by omega)
    have NO := Lib.hid (HBAD.out (by simp [finM];omega))
    clear HBAD HAL HST hS9
    go_wp2_with fail
    refine (wis_no (by simp [*]) 12 _).mono ?_
    rintro e w5 ⟨rfl,rfl⟩
    go_wp2_with fail
    exact ⟨rfl,TreeEnd.no NO.out (Keeps.refl _ _)⟩
  ·obtain rfl : k = n := by omega
   have hel : l.take k = l := List.take_of_length_le (by have := HN.out;omega)
   have hall' := hall.out
   rw [hel] at hall' ⊢
   clear hall hel
   obtain ⟨s1,s2,s3,s4,s5,s6,s7,s8,s9⟩ := sums HLEN.out hall'
   obtain ⟨S,hS⟩ : ∃ S,S = sumW l := ⟨_,rfl⟩
   obtain ⟨K,hK⟩ : ∃ K,K = kW l := ⟨_,rfl⟩
   obtain ⟨R,hR⟩ : ∃ R,R = restW l := ⟨_,rfl⟩
   obtain ⟨V,hV⟩ : ∃ V,V = vW l := ⟨_,rfl⟩
   have HOK : Hid (okW l = ((decide (0 < S) && (decide (K ≤ 11) && decide (R = 2 ^ (V - 1)))) && (l ++ [(V : Int)]).contains 1)) := by
    show _ = _
    rw [okW,HLEN.out,hall',hS,hK,hR,hV];simp
   have HLS := Lib.hid (fun w => blen_call S (by omega) w)
   have HLR := Lib.hid (fun w => blen_call R (by omega) w)
   have eK : Go.Lib.bitLen S = K := by rw [hK,hS];rfl
   have eV : Go.Lib.bitLen R = V := by rw [hV,hR];rfl
   rw [eK] at HLS
   rw [eV] at HLR
   have HTO : Hid (tOf l = (l ++ [(V : Int)]).map (wgt K)) := by show _ = _;rw [tOf,trL,hV,hK]
   have HVV := Lib.hid hV
   rw [← hS] at s1 s3 s7 ⊢
   rw [← hK] at s2 s3 s4 s7
   rw [← hR] at s5 s6 s7
   rw [← hV] at s8 s9
   have HREST : Hid (wrap64 (wrap64 ((2 : Int) ^ K) - (S : Int)) = (R : Int)) := by
    show _ = _
    rw [(pow_k (show K ≤ 20 by omega)).1]
    generalize 2 ^ K = P at *
    rw [IntWalk.wrap64_in _ ⟨by omega,by omega⟩]
    omega
   have hS9 : S ≤ 1000000 := by omega
   clear hS hK hR hV eK eV s3 s4 s7 s1
   obtain ⟨U,rfl⟩ : ∃ U,V = U + 1 := ⟨V - 1,by omega⟩
   have hU : U ≤ 19 := by omega
   rw [Nat.add_sub_cancel] at HOK
   have HPW := Lib.hid (pow_k (show U ≤ 20 by omega))
   have wsub : IntKind.i64.wrap (((U : Int) + 1) - 1) = (U : Int) := by rw [IntWalk.i64_in _ (by omega)];omega
   clear s8 s9
   go_wp2_with fail
   refine (HLS.out _).mono ?_
   rintro e w5 ⟨rfl,rfl⟩
   go_wp2_with fail
   rw [HREST.out,IntWalk.u64_in _ (by omega)]
   refine (HLR.out _).mono ?_
   rintro e w5 ⟨rfl,rfl⟩
   by_cases hS0 : S = 0
   ·subst hS0
    have NO : Hid (okW l = false) := by show _ = _;rw [HOK.out];simp
    clear HREST
    go_wp2_with fail
    refine (wis_no (by simp) 12 _).mono ?_
    rintro e w5 ⟨rfl,rfl⟩
    go_wp2_with fail
    exact ⟨rfl,TreeEnd.no NO.out (Keeps.refl _ _)⟩
   ·have hS1 : (0 : Int) < (S : Int) := by omega
    by_cases hK : K ≤ 11
    ·have hK1 : (K : Int) ≤ 11 := by omega
     by_cases hR : R = 2 ^ U
     ·have HR := Lib.hid hR
      have HK := Lib.hid hK
      clear HREST hR hK s2 s5
      go_wp2_with fail
      refine (wis_yes (by rw [HPW.out.1,HR.out];simp) 12 _).mono ?_
      rintro e w5 ⟨rfl,rfl⟩
      have hi := Hi.out
      have hL : (l ++ [((U + 1 : Nat) : Int)]).length = k + 1 := by rw [List.length_append,← HN.out];rfl
      have HL := Lib.hid hL
      clear hL
      have hold : Hid (∀ W : World,Keeps w W [] → ∀ b',some (⟨b,o,none⟩ : Addr) = some b' → ∀ j u,(l.map (Value.int .i64))[j]? = some u → W.cell? (b'.add j) = some u) := fun W kk b' he => by
       cases he
       exact (HV.out.keeps kk).news
      have HLM : Hid ((l.map (Value.int .i64)).length = k * 1) := by have := HN.out;show _ = _;simp;omega
      go_wp2_with (first | (at_builtin;refine wpList_append_grows _ rfl (.tmp 68) (.tmp 70) 25 rfl 3 i0 (.int .i64 0) 1 8 Tryz.underlying25 hi hz0 hz1 hz2 rfl (by decide) (some ⟨b,o,none⟩) k k (l.map (.int .i64)) rfl (fun h => by cases h) HLM.out (hold.out _ ((Keeps.refl w []).alloc _)) ⟨w.heap.size,0,none⟩ 1 1 [.int .i64 ((U : Int) + 1)] rfl rfl (cell_one_new _ _ _) (by simp [Value.oneCell']) (by omega) (by unfold maxLen;omega) (by omega) ?_;intro v2 w2 own2 gr2;have g2 : Hid (Keeps _ w2 []) := Keeps.of_grown gr2 (fun k hk => by cases hk);clear gr2;obtain ⟨ad2,c2,rfl⟩ := own_form own2;have OWN := Lib.hid own2;clear own2))
      obtain ⟨g,rfl,hgw⟩ := own_some (by omega) OWN.out
      have heL : l.map (Value.int .i64) ++ [Value.int .i64 ((U : Int) + 1)] = (l ++ [(U : Int) + 1]).map (Value.int .i64) := by simp
      have HTO2 : Hid (tOf l = (l ++ [(U : Int) + 1]).map (wgt K)) := by show _ = _;rw [HTO.out];push_cast;rfl
      have HOK2 : Hid (okW l = (l ++ [(U : Int) + 1]).contains 1) := by show _ = _;rw [HOK.out,← HR.out];push_cast;simp [HK.out];omega
      have HL2 : Hid ((l ++ [(U : Int) + 1]).length = k + 1) := by have := HL.out;push_cast at this;exact this
      have ROW := Lib.hid (rowI_own HL2.out (heL ▸ OWN.out))
      have HB2 : Hid (∀ x ∈ l ++ [(U : Int) + 1],0 ≤ x ∧ x ≤ 20) := fun x hx => by
       rcases List.mem_append.1 hx with h | h
       ·have := finM_iff.1 (List.all_eq_true.1 hall' x h);omega
       ·rw [List.mem_singleton.1 h];omega
      have kw := Lib.hid (((Keeps.refl w []).alloc (.cells #[.int .i64 ((U : Int) + 1)] 3)).then g2.out)
      simp only [World.size_alloc] at hgw
      have HHAS := Lib.hid (has_call (.slice (some ⟨g,0,none⟩) (k + 1) c2) _ 1 w2 ROW.out.reads (by have := HL2.out;omega))
      rw [← HOK2.out] at HHAS
      have hcap2 := ROW.out.cap
      have hHV := HVV.out
      generalize l ++ [(U : Int) + 1] = L at *
      clear HOK HOK2 HL HLM hold HTO heL OWN g2
      refine HHAS.out.mono ?_
      rintro e w5 ⟨rfl,rfl⟩
      cases hok : okW l with
      | false =>
       have NO := Lib.hid hok
       clear hok
       go_wp2_with fail
       refine (wis_no rfl 12 _).mono ?_
       rintro e w5 ⟨rfl,rfl⟩
       go_wp2_with fail
       exact ⟨rfl,TreeEnd.no NO.out kw.out⟩
      | true =>
       have YES := Lib.hid hok
       clear hok
       go_wp2_with fail
       refine (wis_yes rfl 12 _).mono ?_
       rintro e w5 ⟨rfl,rfl⟩
       have HST2 : Hid (∀ j x,L[j]? = some x → 0 < x → (trF (wgt K) L j).set j ((K : Int) + 1 - x) = trF (wgt K) L (j + 1)) := fun j x hx h0 => by
        have := trF_set (f := wgt K) hx
        rw [← this,wgt,if_pos h0]
       have HSN2 : Hid (∀ j x,L[j]? = some x → 0 ≤ x → ¬ 0 < x → trF (wgt K) L (j + 1) = trF (wgt K) L j) := fun j x hx h1 h0 => trF_same hx (by rw [wgt,if_neg h0];omega)
       have HGT : Hid (∀ j x,L[j]? = some x → (trF (wgt K) L j)[j]? = some x) := fun j x hx => trF_get hx
       rw [← trF_all (wgt K) (show L.length ≤ k + 1 by have := HL2.out;omega)] at HTO2
       have ROW0 : Hid (RowI w2 g (k + 1) c2 (trF (wgt K) L 0)) := by rw [trF_zero];exact ROW.out
       clear ROW
       generalize wgt (K : Int) = F at *
       go_wp2_with fail
       go_loopw [77] (fun i wr => ∃ j : Nat,j ≤ k + 1 ∧ i = .int .i64 j ∧ Hid (RowI wr g (k + 1) c2 (trF F L j)) ∧ Hid (Keeps w wr [])) (fun i _ => k + 1 - (intOf i).toNat)
       case atStart => exact ⟨0,Nat.zero_le _,rfl,ROW0,kw⟩
       case round =>
        clear ROW0 kw
        obtain ⟨j,hj,rfl,ROW,kk⟩ := hrel
        by_cases hjt : j < k + 1
        ·obtain ⟨x,hx⟩ : ∃ x,L[j]? = some x := ⟨_,List.getElem?_eq_getElem (by have := HL2.out;omega)⟩
         have hxb := HB2.out x (List.mem_of_getElem? hx)
         have hbc := ROW.out.at (HGT.out j x hx)
         have hbf := ROW.out.frozen j
         have hst := Lib.hid (HST2.out j x hx)
         have hsn := Lib.hid (HSN2.out j x hx)
         have hjk : (j : Int) < (k : Int) + 1 := by omega
         clear hx
         by_cases h0 : 0 < x
         ·have NR : Hid (RowI (wr.setCell ⟨g,j,none⟩ (.int .i64 ((K : Int) + 1 - x))) g (k + 1) c2 (trF F L (j + 1))) := by rw [← hst.out h0];exact ROW.out.set j _
          have NK : Hid (Keeps w (wr.setCell ⟨g,j,none⟩ (.int .i64 ((K : Int) + 1 - x))) []) := kk.out.setCell (.inl (by dsimp only;omega)) _
          clear hst hsn
          go_wp2_with fail
          go_roundw
          case rel => exact ⟨j + 1,by omega,by go_num,NR,NK⟩
          case measure => simp [intOf];omega
         ·have d0 : decide (0 < x) = false := decide_eq_false h0
          have NR : Hid (RowI wr g (k + 1) c2 (trF F L (j + 1))) := by rw [hsn.out hxb.1 (by omega)];exact ROW.out
          clear hst hsn
          go_wp2_with fail
          go_roundw
          case rel => exact ⟨j + 1,by omega,by go_num,NR,kk⟩
          case measure => simp [intOf];omega
        ·have hjk : ¬ ((j : Int) < (k : Int) + 1) := by omega
         obtain rfl : j = k + 1 := by omega
         have HRES : Hid (RdI .i64 wr (.slice (some ⟨g,0,none⟩) (k + 1) c2) (tOf l)) := by rw [HTO2.out];exact ROW.out.reads
         clear ROW
         go_wp2_with fail
         go_ret2
         exact ⟨kk.out,fun _ => ⟨_,by rw [← hHV];push_cast;rfl,HRES.out,fun ad n c he => by cases he;dsimp only;omega⟩,fun h => by rw [YES.out] at h;cases h⟩
     ·have NO : Hid (okW l = false) := by show _ = _;rw [HOK.out];simp [hR]
      have HR := Lib.hid hR
      clear HREST hR hK s2 s5
      go_wp2_with fail
      refine (wis_no (by rw [HPW.out.1,beq_eq_false_iff_ne];intro h;injection h with h;exact HR.out (by exact_mod_cast h)) 12 _).mono ?_
      rintro e w5 ⟨rfl,rfl⟩
      go_wp2_with fail
      exact ⟨rfl,TreeEnd.no NO.out (Keeps.refl _ _)⟩
    ·have NO : Hid (okW l = false) := by show _ = _;rw [HOK.out];simp [hK]
     have dK : decide ((K : Int) ≤ 11) = false := decide_eq_false (by omega)
     clear HREST
     go_wp2_with fail
     refine (wis_no (by simp [*]) 12 _).mono ?_
     rintro e w5 ⟨rfl,rfl⟩
     go_wp2_with fail
     exact ⟨rfl,TreeEnd.no NO.out (Keeps.refl _ _)⟩
end

end Go.Proofs.YtcmagccfagijlaaGreat
