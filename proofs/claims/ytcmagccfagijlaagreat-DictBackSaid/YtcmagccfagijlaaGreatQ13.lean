/-
  Walks over package flow: Decode. (Printed by mkWd.py.)
-/
import Derived.Test.YtcmagccfagijlaaGreatQ12
namespace Go.Proofs.YtcmagccfagijlaaGreat
set_option linter.unusedVariables false
set_option linter.unusedSimpArgs false
set_option linter.unusedSectionVars false
set_option maxRecDepth 100000
open Go.RowKit

def bwdL (B : List Int) (b : Nat) : List Bool := (rowBits B).take b
theorem bwdL_len {B : List Int} {b : Nat} (h : b ≤ 8 * B.length) : (bwdL B b).length = b := by rw [bwdL,List.length_take,rowBits_len];omega
theorem tb_take {B : List Int} {b m : Nat} (h : b ≤ 8 * B.length) (hm : m ≤ b) : tb (bwdL B b) m = .ok (bitsAt B (b - m) m,bwdL B (b - m)) := by
 rw [tb_ok (by rw [bwdL_len h];exact hm),bwdL_len h]
 unfold bwdL bitsAt
 rw [List.drop_take,List.take_take,Nat.min_eq_left (by omega),show b - (b - m) = m by omega]
theorem tb_short {B : List Int} {b m : Nat} (h : b ≤ 8 * B.length) (hm : b < m) : tb (bwdL B b) m = .error 14 := tb_no (by rw [bwdL_len h];exact hm)
theorem mayE14_in {n r : Nat} (h : n ≤ r) (h64 : n ≤ 64) : mayE (n : Int) r 14 = 0 := by
 unfold mayE
 rw [if_neg (by omega),if_neg (by omega)]
theorem mayE14_out {n r : Nat} (h : r < n) (h64 : n ≤ 64) : mayE (n : Int) r 14 = 14 := by
 unfold mayE
 rw [if_neg (by omega),if_pos (by omega)]

def FlowEnd (w : World) (F : Except Int (List Int)) (e : Ending) (w' : World) : Prop :=
 Keeps w w' [] ∧ match F with
  | .ok out => ∃ r,e = .returned (.tuple #[r,.int .i64 0]) ∧ RdI .i64 w' r out ∧ Fresh w.heap.size r
  | .error n => n ≠ 0 ∧ e = .returned (.tuple #[.slice none 0 0,.int .i64 n])

def flowD (g : Int) (norm B : List Int) (n : Nat) : Except Int (List Int) :=
 if okN g norm 256 9 = false then .error 13 else if B.getD (B.length - 1) 0 = 0 then .error 14 else flowP (celP g.toNat norm) g.toNat n (bwdL B (topB B))

section
variable {g : Int} {nv bv : Value} {norm B : List Int} {n : Nat} {w : World}

theorem fdec_bad (hv : RdI .i64 w nv norm) (hn : norm.length ≤ 1000000) (hb : ∀ x ∈ norm,-9223372036854775808 ≤ x ∧ x ≤ 9223372036854775807) (hok : okN g norm 256 9 = false) :
  Calls Tryz.prog 160 #[.agg #[.int .i64 g,nv],bv,.int .i64 (n : Int)] w (FlowEnd w (.error 13)) := by
 obtain ⟨A0,m,cp0,rfl,hnl,-⟩ := hv.form
 have k0 := (Keeps.refl w []).alloc (.cells #[.int .i64 g,.slice A0 m cp0] 27)
 have HC := Lib.hid (build_bad g _ norm _ (hv.keeps k0) hn hb hok)
 clear hv hnl hok hb
 go_enter Tryz.func160,Tryz.ntmps160
 go_wp2_with (go_at_call 187;(refine HC.out.mono ?_;rintro e w1 ⟨rfl,k1⟩))
 go_ret2
 exact ⟨k0.then k1,by decide,rfl⟩

theorem fdec_mark (G : Nat) (hv : RdI .i64 w nv norm) (hb : ∀ x ∈ norm,-9223372036854775808 ≤ x ∧ x ≤ 9223372036854775807) (hok : TblOk G norm) (hok' : okN (G : Int) norm 256 9 = true) (hB : RdI .u8 w bv B) (hl : B.length ≤ 1000000) (hz : B.getD (B.length - 1) 0 = 0) (hn : n ≤ 131072) :
  Calls Tryz.prog 160 #[.agg #[.int .i64 (G : Int),nv],bv,.int .i64 (n : Int)] w (FlowEnd w (.error 14)) := by
 obtain ⟨A0,m,cp0,rfl,hnl,-⟩ := hv.form
 have k0 := (Keeps.refl w []).alloc (.cells #[.int .i64 (G : Int),.slice A0 m cp0] 27)
 have HC := Lib.hid (build_ok G _ norm _ (hv.keeps k0) hb hok hok')
 have HN := Lib.hid (fun W (k : Keeps w W []) => newBwd_no bv B W (hB.keeps k) hl hz)
 obtain ⟨S,hS⟩ : ∃ S,2 ^ G = S := ⟨_,rfl⟩
 rw [hS] at HC
 have hn1 : decide ((131072 : Int) < (n : Int)) = false := decide_eq_false (by omega)
 have hn2 : decide (131072 < n) = false := decide_eq_false (by omega)
 clear hv hnl hok hok' hb hB hS
 go_enter Tryz.func160,Tryz.ntmps160
 go_wp2_with (first
  | (go_at_call 187;(refine HC.out.mono ?_;rintro e w1 ⟨a,c,rfl,-,k1⟩;have kk1 := k0.then k1))
  | (go_at_call 188;(refine (HN.out _ kk1).mono ?_;rintro e w2 ⟨rfl,rfl⟩)))
 go_ret2
 exact ⟨kk1,by decide,rfl⟩
end

theorem btake_ok (R g b m : Nat) (B : List Int) (w : World) (h : BitR w R g 259 B 0 b) (hm : m ≤ b) (h64 : m ≤ 64) :
  Calls Tryz.prog 189 #[.pointer (some ⟨R,0,none⟩),.int .i64 (m : Int)] w fun e w' => e = .returned (.tuple #[.int .u64 (bitsAt B (b - m) m : Nat),.int .i64 0]) ∧ BitR w' R g 259 B 0 (b - m) ∧ Keeps w w' [R] := by
 have := bwdTake_any R g B 0 b (m : Int) w h
 rw [Nat.sub_zero,mayE14_in hm h64] at this
 simpa using this
theorem btake_no (R g b m : Nat) (B : List Int) (w : World) (h : BitR w R g 259 B 0 b) (hm : b < m) (h64 : m ≤ 64) :
  Calls Tryz.prog 189 #[.pointer (some ⟨R,0,none⟩),.int .i64 (m : Int)] w fun e w' => e = .returned (.tuple #[.int .u64 0,.int .i64 14]) ∧ Keeps w w' [] := by
 have := bwdTake_any R g B 0 b (m : Int) w h
 rw [Nat.sub_zero,mayE14_out hm h64] at this
 simp only [show ¬ ((14 : Int) = 0) by decide,if_false] at this
 exact this.mono fun e w' ⟨h1,q,h2⟩ => ⟨h1,h2 ▸ (Keeps.refl w []).drewN q⟩

def Two (c : Nat → Cel) (g n : Nat) (R0 : List Bool) (B : List Int) (i b x y : Nat) : Prop :=
 (i = 0 ∧ bwdL B b = R0 ∧ x = 0 ∧ y = 0) ∨ (i = 1 ∧ 0 < n ∧ tb R0 g = .ok (x,bwdL B b) ∧ y = 0) ∨ (i = 2 ∧ 1 < n ∧ ∃ R1,tb R0 g = .ok (x,R1) ∧ tb R1 g = .ok (y,bwdL B b))
theorem two_end {c : Nat → Cel} {g n : Nat} {R0 : List Bool} {B : List Int} {i b x y : Nat} (h : Two c g n R0 B i b x y) (hi : i = min n 2) : flowP c g n R0 = flowG c n (bwdL B b) x y [] ∧ x < 2 ^ g ∧ y < 2 ^ g := by
 have hp := Nat.two_pow_pos g
 unfold flowP
 rcases h with ⟨h0,h1,rfl,rfl⟩ | ⟨h0,hn,h1,rfl⟩ | ⟨h0,hn,R1,h1,h2⟩
 ·have hn : n = 0 := by omega
  subst hn
  simp only [Nat.lt_irrefl,if_false,Nat.not_lt_zero]
  rw [h1]
  exact ⟨rfl,hp,hp⟩
 ·have hn1 : n = 1 := by omega
  subst hn1
  simp only [Nat.lt_irrefl,if_false,Nat.zero_lt_one,if_true]
  rw [h1]
  exact ⟨rfl,(tb_lt h1).1,hp⟩
 ·rw [if_pos (by omega),h1]
  simp only
  rw [if_pos hn,h2]
  exact ⟨rfl,(tb_lt h1).1,(tb_lt h2).1⟩

theorem two_fail {c : Nat → Cel} {g n : Nat} {R0 : List Bool} {B : List Int} {i b x y : Nat} (h : Two c g n R0 B i b x y) (hi : i < min n 2) (hb : b ≤ 8 * B.length) (hg : b < g) : flowP c g n R0 = .error 14 := by
 have hs := tb_short hb hg
 unfold flowP
 rcases h with ⟨h0,h1,-,-⟩ | ⟨h0,hn,h1,-⟩ | ⟨h0,hn,-⟩
 ·rw [if_pos (by omega),← h1,hs]
 ·rw [if_pos hn,h1]
  simp only
  rw [if_pos (by omega),hs]
 ·omega

theorem younger {w : World} {base : Nat} {e : TypeId} {size n : Nat} {v : Value} {xs : List Value} (h : w.ownsRow base e size v n xs) : ∀ x ∈ (match v.ownBlock with | some g => [g] | none => []),x < w.heap.size := by
 intro x hx
 cases hv : v.ownBlock with
 | none => rw [hv] at hx;simp at hx
 | some g => rw [hv] at hx;simp at hx;subst hx;exact (h.lt x hv).2
def twoV (i now other : Nat) : Array Value := if i % 2 = 0 then #[.int .i64 (now : Int),.int .i64 (other : Int)] else #[.int .i64 (other : Int),.int .i64 (now : Int)]
theorem twoV_even {i now other : Nat} (h : i % 2 = 0) : twoV i now other = #[.int .i64 (now : Int),.int .i64 (other : Int)] := if_pos h
theorem twoV_odd {i now other : Nat} (h : i % 2 = 1) : twoV i now other = #[.int .i64 (other : Int),.int .i64 (now : Int)] := if_neg (by omega)
theorem cel_cells {w : World} {a : Option Addr} {n c : Nat} {L : List Cel} (h : RdW rowC 3 w (.slice a n c) L) {i : Nat} {x : Cel} (hx : L[i]? = some x) : ∃ b o,a = some ⟨b,o,none⟩ ∧ b < w.heap.size ∧ w.cell? ⟨b,o + i * 3,none⟩ = some (.int .i64 (x.1 : Int)) ∧ w.cell? ⟨b,o + i * 3 + 1,none⟩ = some (.int .i64 (x.2.1 : Int)) ∧ w.cell? ⟨b,o + i * 3 + 2,none⟩ = some (.int .i64 (x.2.2 : Int)) := by
 obtain ⟨b,o,h1,h2,h3⟩ := h.at hx
 exact ⟨b,o,h1,h2,h3 0 _ rfl,h3 1 _ rfl,h3 2 _ rfl⟩

set_option maxHeartbeats 4000000 in
theorem fdec_ok (G : Nat) (nv bv : Value) (norm B : List Int) (n : Nat) (w : World) (hv : RdI .i64 w nv norm) (hb : ∀ x ∈ norm,-9223372036854775808 ≤ x ∧ x ≤ 9223372036854775807) (hok : TblOk G norm) (hok' : okN (G : Int) norm 256 9 = true) (hB : RdI .u8 w bv B) (hl : B.length ≤ 1000000) (hby : ∀ x ∈ B,0 ≤ x ∧ x ≤ 255)
  (hz : B.getD (B.length - 1) 0 ≠ 0) (hn : n ≤ 131072) :
  Calls Tryz.prog 160 #[.agg #[.int .i64 (G : Int),nv],bv,.int .i64 (n : Int)] w (FlowEnd w (flowP (celP G norm) G n (bwdL B (topB B)))) := by
 obtain ⟨i0,hi,hz0,hz1,hz2⟩ := info_parts Tryz.infoInt
 obtain ⟨F,hF⟩ : ∃ F,flowP (celP G norm) G n (bwdL B (topB B)) = F := ⟨_,rfl⟩
 have HF := Lib.hid hF
 rw [hF]
 obtain ⟨A0,m,cp0,rfl,hnl,-⟩ := hv.form
 have k0 := (Keeps.refl w []).alloc (.cells #[.int .i64 (G : Int),.slice A0 m cp0] 27)
 have b0 := Blk.new w #[.int .i64 (G : Int),.slice A0 m cp0] 27
 have HC := Lib.hid (build_ok G _ norm _ (hv.keeps k0) hb hok hok')
 have HN := Lib.hid (fun W (k : Keeps w W []) => newBwd_yes bv B W (hB.keeps k) hl hby hz)
 have hg9 := hok.g9
 have HIN := Lib.hid (fun p v h1 h2 => celP_in (p := p) (v := v) hok h1 h2)
 obtain ⟨hS1,hS2⟩ := hok.size
 obtain ⟨S,hS⟩ : ∃ S,2 ^ G = S := ⟨_,rfl⟩
 rw [hS] at HC HIN hS1 hS2
 have HSE := Lib.hid hS
 have hn1 : decide ((131072 : Int) < (n : Int)) = false := decide_eq_false (by omega)
 have hn2 : decide (131072 < n) = false := decide_eq_false (by omega)
 have hlw := b0.lt
 clear hv hnl hok hok' hb hB hS hF hby hz hl
 go_enter Tryz.func160,Tryz.ntmps160
 go_wp2_with (first
  | (go_at_call 187;(refine HC.out.mono ?_;rintro e w1 ⟨a,c,rfl,own1,k1⟩;have kk1 := k0.then k1))
  | (go_at_call 188;(refine (HN.out _ kk1).mono ?_;rintro e w2 ⟨R,g,rfl,br,hR,hgg,k2⟩)))
 have hlR := br.lt.1
 have hlg := br.lt.2
 have hbt := br.hb
 have ka := (Keeps.refl w2 []).alloc (.cells #[.int .i64 0,.int .i64 0] 232)
 have hs1 := kk1.size
 have hs2 := k2.size
 have b2 := (b0.keeps k1 (by simp)).keeps (k2.then ka) (by simp)
 have t2 := Blk.new w2 #[.int .i64 0,.int .i64 0] 232
 have br2 := br.keep ka
 have hlS : (cellsL G norm S).length = S := cellsL_len G norm S
 have rc : RdW rowC 3 w1 (.slice a S c) (cellsL G norm S) := ownW_reads rowC_len (by rw [hlS];exact own1)
 have hwH := (b0.keeps k1 (by simp)).lt
 have rc2 := rc.keep (k2.then ka)
 have HCB : Hid (∀ ad,a = some ad → ad.block < w1.heap.size) := fun ad he => by subst he;exact (own1.lt ad.block rfl).2
 have kk2 := (kk1.then k2).then ka
 have hsz : w2.heap.size < (w2.alloc (.cells #[.int .i64 0,.int .i64 0] 232)).heap.size := by simp
 obtain ⟨H1,hH1⟩ : ∃ H,w1.heap.size = H := ⟨_,rfl⟩
 obtain ⟨T,hT⟩ : ∃ T,w2.heap.size = T := ⟨_,rfl⟩
 rw [hH1] at HCB hs1 hs2 hR hwH
 rw [hT] at hs2 hlR hlg t2 hsz ⊢
 generalize (w2.alloc (.cells #[.int .i64 0,.int .i64 0] 232)) = W0 at *
 obtain ⟨N2,hN2⟩ : ∃ N : Nat,min n 2 = N := ⟨_,rfl⟩
 have hN2' : min (n : Int) 2 = (N2 : Int) := by omega
 rw [hN2']
 have HLG := Lib.hid hlg
 clear hlS
 have HI0 := Lib.hid (show _ ∧ _ ∧ _ ∧ _ ∧ _ from ⟨b2,t2,br2,rc2,kk2⟩)
 have HN2 := Lib.hid (And.intro hN2 trivial)
 have hN2le : N2 ≤ 2 := by omega
 clear b0 k0 k1 k2 own1 kk1 br ka b2 t2 br2 rc rc2 kk2 hH1 hT hN2 hN2' hlg HC HN
 go_loopw [44] (fun s44 wr => ∃ i b x y : Nat,s44 = .int .i64 i ∧ i ≤ N2 ∧ Blk wr w.heap.size #[.int .i64 (G : Int),.slice A0 m cp0] 27 ∧ Blk wr T #[.int .i64 (x : Int),.int .i64 (y : Int)] 232 ∧ BitR wr R g 259 B 0 b ∧
   RdW rowC 3 wr (.slice a S c) (cellsL G norm S) ∧ Keeps w wr [] ∧ T < wr.heap.size ∧ Hid (Two (celP G norm) G n (bwdL B (topB B)) B i b x y)) (fun s44 _ => N2 - (intOf s44).toNat)
 case atStart =>
  obtain ⟨x1,x2,x3,x4,x5⟩ := HI0.out
  exact ⟨0,topB B,0,0,rfl,Nat.zero_le _,x1,x2,x3,x4,x5,hsz,.inl ⟨rfl,rfl,rfl,rfl⟩⟩
 case round =>
  clear HI0 hsz
  obtain ⟨i,b,x,y,rfl,hi2,bT,tw,br,rc,kk,hszr,htwo⟩ := hrel
  by_cases hlt : i < N2
  ·have hbl := br.hb
   have hnk : ∀ ad,a = some ad → ad.block ≠ R ∧ ad.block ≠ T := fun ad he => by have := HCB.out ad he;omega
   have HNK := Lib.hid hnk
   clear hnk
   have e0 := bT.cell 0
   simp at e0
   by_cases hA : G ≤ b
   ·have HT := Lib.hid (btake_ok R g b G B wr br hA (by omega))
    have hvl := bitsAt_lt B (b - G) G
    rw [HSE.out] at hvl
    have htk := tb_take hbl hA
    obtain ⟨v,hv⟩ : ∃ v,bitsAt B (b - G) G = v := ⟨_,rfl⟩
    rw [hv] at HT hvl htk
    obtain ⟨V,hV⟩ : ∃ V : Int,((v : Nat) : Int) = V := ⟨_,rfl⟩
    rw [hV] at HT
    have HV := Lib.hid hV
    have hwv0 : wrap64 V = V := IntWalk.wrap64_in _ ⟨by omega,by omega⟩
    clear hV
    rcases htwo.out with ⟨rfl,h1,rfl,rfl⟩ | ⟨rfl,h0,h1,rfl⟩ | ⟨rfl,h0,-⟩
    ·have hn0 : (0 : Int) < (N2 : Int) := by omega
     have hn0' : 0 < N2 := hlt
     have NT : Hid (Two (celP G norm) G n (bwdL B (topB B)) B 1 (b - G) v 0) := .inr (.inl ⟨rfl,by have := HN2.out.1;omega,by rw [← h1];exact htk,rfl⟩)
     have HREL := Lib.hid (show _ ∧ _ ∧ _ from ⟨bT,rc,kk⟩)
     have TW := Lib.hid tw
     clear htwo h1 htk hv bT tw br rc kk hlt hi2 hbl
     go_wp2_with fail
     refine HT.out.mono ?_
     rintro e w5 ⟨rfl,br5,k5⟩
     have t5 := TW.out.keeps k5 (by simp;omega)
     have c0 := t5.cell 0
     have f0 := t5.frozen 0
     simp at c0
     have hlt5 := t5.lt
     have BR5 := Lib.hid br5
     clear br5 e0
     go_wp2_with fail
     have kset : Keeps w5 (w5.setCell ⟨T,0,none⟩ (.int .i64 V)) [T] := (Keeps.refl w5 _).setCell (.inr (by simp)) _
     have t6 : Blk (w5.setCell ⟨T,0,none⟩ (.int .i64 V)) T #[.int .i64 V,.int .i64 ((0 : Nat) : Int)] 232 := by
      have := t5.set 0 (.int .i64 V)
      simpa using this
     go_roundw
     case rel =>
      obtain ⟨x1,x2,x3⟩ := HREL.out
      exact ⟨1,b - G,v,0,rfl,by omega,(x1.keeps k5 (by simp;omega)).keeps kset (by simp;omega),by rw [HV.out];exact t6,BR5.out.keepsC kset (by simp;omega) (fun h0 => by have := HLG.out h0;simp;omega),
       (x2.keeps k5 (fun ad nn cp he _ hm => by cases he;have := HNK.out _ rfl;have h := List.mem_singleton.1 hm;exact this.1 h)).keeps kset (fun ad nn cp he _ hm => by cases he;have := HNK.out _ rfl;have h := List.mem_singleton.1 hm;exact this.2 h),
       (x3.trans k5 (fun j hj hl => by have := List.mem_singleton.1 hj;omega)).trans kset (fun j hj hl => by have := List.mem_singleton.1 hj;omega),by have := k5.size;have := kset.size;omega,NT⟩
     case measure => simp [intOf];omega
    ·have hn0 : (1 : Int) < (N2 : Int) := by omega
     have hn0' : 1 < N2 := hlt
     have NT : Hid (Two (celP G norm) G n (bwdL B (topB B)) B 2 (b - G) x v) := .inr (.inr ⟨rfl,by have := HN2.out.1;omega,_,h1,htk⟩)
     have HREL := Lib.hid (show _ ∧ _ ∧ _ from ⟨bT,rc,kk⟩)
     have TW := Lib.hid tw
     clear htwo h0 h1 htk hv bT tw br rc kk hlt hi2 hbl
     go_wp2_with fail
     refine HT.out.mono ?_
     rintro e w5 ⟨rfl,br5,k5⟩
     have t5 := TW.out.keeps k5 (by simp;omega)
     have c0 := t5.cell 1
     have f0 := t5.frozen 1
     simp at c0
     have hlt5 := t5.lt
     have BR5 := Lib.hid br5
     clear br5 e0
     go_wp2_with fail
     have kset : Keeps w5 (w5.setCell ⟨T,1,none⟩ (.int .i64 V)) [T] := (Keeps.refl w5 _).setCell (.inr (by simp)) _
     have t6 : Blk (w5.setCell ⟨T,1,none⟩ (.int .i64 V)) T #[.int .i64 (x : Int),.int .i64 V] 232 := by
      have := t5.set 1 (.int .i64 V)
      simpa using this
     go_roundw
     case rel =>
      obtain ⟨x1,x2,x3⟩ := HREL.out
      exact ⟨2,b - G,x,v,rfl,by omega,(x1.keeps k5 (by simp;omega)).keeps kset (by simp;omega),by rw [HV.out];exact t6,BR5.out.keepsC kset (by simp;omega) (fun h0 => by have := HLG.out h0;simp;omega),
       (x2.keeps k5 (fun ad nn cp he _ hm => by cases he;have := HNK.out _ rfl;have h := List.mem_singleton.1 hm;exact this.1 h)).keeps kset (fun ad nn cp he _ hm => by cases he;have := HNK.out _ rfl;have h := List.mem_singleton.1 hm;exact this.2 h),
       (x3.trans k5 (fun j hj hl => by have := List.mem_singleton.1 hj;omega)).trans kset (fun j hj hl => by have := List.mem_singleton.1 hj;omega),by have := k5.size;have := kset.size;omega,NT⟩
     case measure => simp [intOf];omega
    ·exfalso;omega
   ·have HT := Lib.hid (btake_no R g b G B wr br (by omega) (by omega))
    have HFL := Lib.hid (two_fail htwo.out (by have := HN2.out.1;omega) hbl (by omega))
    have hltI : (i : Int) < (N2 : Int) := by omega
    clear htwo bT tw br rc hbl hA
    go_wp2_with fail
    refine HT.out.mono ?_
    rintro e w5 ⟨rfl,k5⟩
    clear e0
    go_wp2_with fail
    go_ret2
    refine ⟨kk.then k5,?_⟩
    rw [← HF.out,HFL.out]
    exact ⟨by decide,rfl⟩
  ·obtain rfl : i = N2 := by omega
   have hltI : decide ((i : Int) < (i : Int)) = false := by simp
   obtain ⟨hfg,hxS,hyS⟩ := two_end htwo.out HN2.out.1.symm
   rw [HF.out] at hfg
   rw [HSE.out] at hxS hyS
   have HFG := Lib.hid hfg.symm
   have HREL := Lib.hid (show _ ∧ _ ∧ _ ∧ _ ∧ _ from ⟨bT,tw,br,rc,kk⟩)
   clear htwo hfg bT tw br rc kk hltI
   go_wp2_with fail
   go_loopw [15,63] (fun s15 s63 wr => ∃ (i b now other c' : Nat) (a' : Option Addr) (out : List Int),s63 = .int .i64 i ∧ i ≤ n ∧ s15 = .slice a' i c' ∧ Blk wr w.heap.size #[.int .i64 (G : Int),.slice A0 m cp0] 27 ∧ Blk wr T (twoV i now other) 232 ∧ BitR wr R g 259 B 0 b ∧
     RdW rowC 3 wr (.slice a S c) (cellsL G norm S) ∧ Keeps w wr [] ∧ T < wr.heap.size ∧ wr.ownsRow (T + 1) 3 1 (.slice a' i c') i (out.map (.int .i64)) ∧ now < S ∧ other < S ∧ Hid (flowG (celP G norm) (n - i) (bwdL B b) now other out = F)) (fun _ s63 _ => n - (intOf s63).toNat)
   case atStart =>
    obtain ⟨x1,x2,x3,x4,x5⟩ := HREL.out
    exact ⟨0,b,x,y,0,none,[],rfl,Nat.zero_le _,rfl,x1,x2,x3,x4,x5,hszr,World.ownsRow_nil _ _ _ _,hxS,hyS,HFG⟩
   case round =>
    clear HREL HFG hszr hxS hyS
    obtain ⟨i,b,now,other,c',a',out,rfl,hin,rfl,bT,tw,br,rc,kk,hszr,own,hnS,hoS,hfl⟩ := hrel
    have hbl := br.hb
    by_cases hlt : i < n
    ·obtain ⟨k,hk⟩ : ∃ k,n - i = k + 1 := ⟨n - i - 1,by omega⟩
     have hk1 : n - (i + 1) = k := by omega
     have hf1 := hfl.out
     rw [hk] at hf1
     unfold flowG at hf1
     have hcg := cellsL_get (g := G) (norm := norm) hnS
     have HINC := Lib.hid (fun v h => HIN.out now v hnS h)
     obtain ⟨bl,ol,rfl,hbl2,cc0,cc1,cc2⟩ := cel_cells rc hcg
     have hnk := HCB.out _ rfl
     simp only at hnk
     have hcap := rc.cap
     generalize celP G norm now = CE at *
     obtain ⟨sy,bi,ba⟩ := CE
     simp only at cc0 cc1 cc2 hf1 HINC
     have hnSI : (now : Int) < (S : Int) := by omega
     have hiI : (i : Int) < (n : Int) := by omega
     rcases Nat.mod_two_eq_zero_or_one i with hpar | hpar
     ·rw [twoV_even hpar] at tw
      have hpI : (i : Int) % 2 = 0 := by omega
      have c0 := tw.cell 0
      simp at c0
      have kA := (Keeps.refl wr []).alloc (.cells #[.int .i64 (sy : Int),.int .i64 (bi : Int),.int .i64 (ba : Int)] 212)
      have tc := Blk.new wr #[.int .i64 (sy : Int),.int .i64 (bi : Int),.int .i64 (ba : Int)] 212
      have OWA := Lib.hid (own_keeps own kA)
      have HREL := Lib.hid (show _ ∧ _ ∧ _ ∧ _ ∧ _ from ⟨bT,tw,br,rc,kk⟩)
      have HFL1 := Lib.hid hf1
      have YG := Lib.hid (young own)
      have YL := Lib.hid (younger own)
      have hTlt := tw.lt
      have hRlt := br.lt.1
      have hszA : wr.heap.size < (wr.alloc (.cells #[.int .i64 (sy : Int),.int .i64 (bi : Int),.int .i64 (ba : Int)] 212)).heap.size := by simp
      obtain ⟨d0,d1,d2,-,-,-⟩ := tc.three
      have TC := Lib.hid tc
      have KA := Lib.hid kA
      have HOLDR := Lib.hid hbl2
      clear hf1 hfl bT br rc kk own tc kA hcg hbl2 tw
      by_cases h2 : 2 ≤ k
      ·have hi2 : (i : Int) + 2 < (n : Int) := by omega
       have hlk := h2
       go_wp2_with (at_builtin;(refine wpList_app1I (w := wr.alloc (.cells #[.int .i64 (sy : Int),.int .i64 (bi : Int),.int .i64 (ba : Int)] 212)) rfl _ _ 25 rfl (T + 1) i0 Tryz.underlying25 hi hz0 hz1 hz2 (.slice a' i c') i out (sy : Int) _ rfl rfl (by simp) OWA.out (by omega) (by simp;omega) ?_;intro a6 c6 w6 own6 k6;have hy6 := YG.out;have tc6 := TC.out.keeps k6 (fun hm => by have := YL.out _ hm;omega);clear d0 d1 d2;obtain ⟨d0,d1,d2,-,-,-⟩ := tc6.three))
       have HKY : Hid (∀ x,x < T + 1 → x ∉ (match Value.ownBlock (.slice a' i c') with | some g => [g] | none => [])) := fun x hx hm => by have := YG.out x hm;omega
       obtain ⟨x1,x2,x3,x4,x5⟩ := HREL.out
       have x1' := (x1.keeps KA.out (by simp)).keeps k6 (HKY.out _ (by omega))
       have x2' := (x2.keeps KA.out (by simp)).keeps k6 (HKY.out _ (by omega))
       have x3' := (x3.keep KA.out).keepsC k6 (HKY.out _ (by omega)) (fun h0 => HKY.out _ (by have := HLG.out h0;omega))
       have x4' := (x4.keep KA.out).keeps k6 (fun ad nn cp he _ hm => by cases he;exact HKY.out _ (by simp only;omega) hm)
       have x5' : Keeps w w6 [] := (x5.then KA.out).trans k6 (fun j hj hl => by have := YG.out j hj;omega)
       have hs6 := k6.size
       have OW6 := Lib.hid own6
       clear x1 x2 x3 x4 x5 own6 k6 HREL OWA tc6 TC
       by_cases hA : bi ≤ b
       ·have hbi : bi ≤ 9 := by have := (HINC.out 0 (Nat.two_pow_pos _)).2;omega
        have HT := Lib.hid (btake_ok R g b bi B w6 x3' hA (by omega))
        have hvl := bitsAt_lt B (b - bi) bi
        have hf := HFL1.out
        rw [if_pos hlk,tb_take hbl hA] at hf
        simp only at hf
        obtain ⟨v,hv⟩ : ∃ v,bitsAt B (b - bi) bi = v := ⟨_,rfl⟩
        rw [hv] at HT hvl hf
        have hin2 := (HINC.out v hvl).1
        have HF2 := Lib.hid hf
        have X1 := Lib.hid (show _ ∧ _ ∧ _ ∧ _ from ⟨x1',x2',x4',x5'⟩)
        clear hf hv x1' x2' x3' x4' x5'
        refine HT.out.mono ?_
        rintro e w7 ⟨rfl,br7,k7⟩
        have d0' := (k7.cell (p := ⟨wr.heap.size,0,none⟩) (by simp only;omega) (by simp;omega)).trans d0
        have d1' := (k7.cell (p := ⟨wr.heap.size,1,none⟩) (by simp only;omega) (by simp;omega)).trans d1
        have d2' := (k7.cell (p := ⟨wr.heap.size,2,none⟩) (by simp only;omega) (by simp;omega)).trans d2
        have HNX := Lib.hid (next_any sy bi ba v w7 hbi hvl (by omega))
        have BR7 := Lib.hid br7
        have hs7 := k7.size
        have K7 := Lib.hid k7
        clear d0 d1 d2 br7 k7 c0 cc0 cc1 cc2
        go_wp2_with (go_at_call 190;(refine HNX.out.mono ?_;rintro e w8 ⟨rfl,k8⟩;have t8 := (X1.out.2.1.keeps K7.out (by simp;omega)).keeps k8 (by simp);have c0 := t8.cell 0;have f0 := t8.frozen 0;have hlt8 := t8.lt;simp at c0))
        have kset : Keeps w8 (w8.setCell ⟨T,0,none⟩ (.int .i64 ((ba + v : Nat) : Int))) [T] := (Keeps.refl w8 _).setCell (.inr (by simp)) _
        have t9 : Blk (w8.setCell ⟨T,0,none⟩ (.int .i64 ((ba + v : Nat) : Int))) T #[.int .i64 ((ba + v : Nat) : Int),.int .i64 (other : Int)] 232 := by
         have := t8.set 0 (.int .i64 ((ba + v : Nat) : Int))
         simpa using this
        have T9 := Lib.hid t9
        have K8 := Lib.hid (show _ ∧ _ from ⟨k8,kset⟩)
        have hs8 := k8.size
        have hs9 := kset.size
        clear t9 t8 k8 kset c0 f0
        go_roundw
        case rel =>
         obtain ⟨y1,-,y3,y4⟩ := X1.out
         obtain ⟨k8,kset⟩ := K8.out
         have hwT : w.heap.size < T := by omega
         refine ⟨i + 1,b - bi,other,ba + v,c6,a6,out ++ [(sy : Int)],by go_num,by omega,rfl,((y1.keeps K7.out (by simp;omega)).keeps k8 (by simp)).keeps kset (by simp;omega),by rw [twoV_odd (by omega)];exact T9.out,(BR7.out.keep k8).keepsC kset (by simp;omega) (fun h0 => by have := HLG.out h0;simp;omega),?_,?_,Nat.lt_of_lt_of_le (show T < w8.heap.size by omega) hs9,?_,hoS,hin2,?_⟩
         ·exact ((y3.keeps K7.out (fun ad nn cp he _ hm => by cases he;have := List.mem_singleton.1 hm;simp only at this;omega)).keep k8).keeps kset (fun ad nn cp he _ hm => by cases he;have := List.mem_singleton.1 hm;simp only at this;omega)
         ·exact ((y4.trans K7.out (fun j hj hl => by have := List.mem_singleton.1 hj;omega)).then k8).trans kset (fun j hj hl => by have := List.mem_singleton.1 hj;omega)
         ·exact own_old (own_keeps (own_old OW6.out K7.out (fun x hx hm => by have := List.mem_singleton.1 hm;have := (OW6.out.lt x hx).1;omega)) k8) kset (fun x hx hm => by have := List.mem_singleton.1 hm;have := (OW6.out.lt x hx).1;omega)
         ·rw [hk1];exact HF2.out
        case measure => simp [intOf];omega
       ·have hbi : bi ≤ 9 := by have := (HINC.out 0 (Nat.two_pow_pos _)).2;omega
        have HT := Lib.hid (btake_no R g b bi B w6 x3' (by omega) (by omega))
        have hf := HFL1.out
        rw [if_pos hlk,tb_short hbl (by omega)] at hf
        simp only at hf
        have HF2 := Lib.hid hf
        have X5 := Lib.hid x5'
        clear hf x1' x2' x3' x4' x5' d0 d1 d2 c0 cc0 cc1 cc2
        refine HT.out.mono ?_
        rintro e w7 ⟨rfl,k7⟩
        go_wp2_with fail
        go_ret2
        refine ⟨X5.out.then k7,?_⟩
        rw [← HF2.out]
        exact ⟨by decide,rfl⟩
      ·have hi2 : decide ((i : Int) + 2 < (n : Int)) = false := decide_eq_false (by omega)
       have hi2n : decide (i + 2 < n) = false := decide_eq_false (by omega)
       have hf := HFL1.out
       rw [if_neg h2] at hf
       have HF2 := Lib.hid hf
       clear hf
       go_wp2_with (at_builtin;(refine wpList_app1I (w := wr.alloc (.cells #[.int .i64 (sy : Int),.int .i64 (bi : Int),.int .i64 (ba : Int)] 212)) rfl _ _ 25 rfl (T + 1) i0 Tryz.underlying25 hi hz0 hz1 hz2 (.slice a' i c') i out (sy : Int) _ rfl rfl (by simp) OWA.out (by omega) (by simp;omega) ?_;intro a6 c6 w6 own6 k6;have hy6 := YG.out;have tc6 := TC.out.keeps k6 (fun hm => by have := YL.out _ hm;omega);clear d0 d1 d2;obtain ⟨d0,d1,d2,-,-,-⟩ := tc6.three))
       have HKY : Hid (∀ x,x < T + 1 → x ∉ (match Value.ownBlock (.slice a' i c') with | some g => [g] | none => [])) := fun x hx hm => by have := YG.out x hm;omega
       obtain ⟨x1,x2,x3,x4,x5⟩ := HREL.out
       have x1' := (x1.keeps KA.out (by simp)).keeps k6 (HKY.out _ (by omega))
       have x2' := (x2.keeps KA.out (by simp)).keeps k6 (HKY.out _ (by omega))
       have x3' := (x3.keep KA.out).keepsC k6 (HKY.out _ (by omega)) (fun h0 => HKY.out _ (by have := HLG.out h0;omega))
       have x4' := (x4.keep KA.out).keeps k6 (fun ad nn cp he _ hm => by cases he;exact HKY.out _ (by simp only;omega) hm)
       have x5' : Keeps w w6 [] := (x5.then KA.out).trans k6 (fun j hj hl => by have := YG.out j hj;omega)
       have hs6 := k6.size
       have OW6 := Lib.hid own6
       clear x1 x2 x3 x4 x5 own6 k6 HREL OWA tc6 TC
       have X1 := Lib.hid (show _ ∧ _ ∧ _ ∧ _ ∧ _ from ⟨x1',x2',x3',x4',x5'⟩)
       clear x1' x2' x3' x4' x5' d0 d1 d2 c0 cc0 cc1 cc2
       go_roundw
       case rel =>
        obtain ⟨y1,y2,y3,y4,y5⟩ := X1.out
        exact ⟨i + 1,b,other,now,c6,a6,out ++ [(sy : Int)],by go_num,by omega,rfl,y1,by rw [twoV_odd (by omega)];exact y2,y3,y4,y5,by omega,OW6.out,hoS,hnS,by show _ = _;rw [hk1];exact HF2.out⟩
       case measure => simp [intOf];omega
     ·rw [twoV_odd hpar] at tw
      have hpI : (i : Int) % 2 = 1 := by omega
      have c0 := tw.cell 1
      simp at c0
      have kA := (Keeps.refl wr []).alloc (.cells #[.int .i64 (sy : Int),.int .i64 (bi : Int),.int .i64 (ba : Int)] 212)
      have tc := Blk.new wr #[.int .i64 (sy : Int),.int .i64 (bi : Int),.int .i64 (ba : Int)] 212
      have OWA := Lib.hid (own_keeps own kA)
      have HREL := Lib.hid (show _ ∧ _ ∧ _ ∧ _ ∧ _ from ⟨bT,tw,br,rc,kk⟩)
      have HFL1 := Lib.hid hf1
      have YG := Lib.hid (young own)
      have YL := Lib.hid (younger own)
      have hTlt := tw.lt
      have hRlt := br.lt.1
      have hszA : wr.heap.size < (wr.alloc (.cells #[.int .i64 (sy : Int),.int .i64 (bi : Int),.int .i64 (ba : Int)] 212)).heap.size := by simp
      obtain ⟨d0,d1,d2,-,-,-⟩ := tc.three
      have TC := Lib.hid tc
      have KA := Lib.hid kA
      have HOLDR := Lib.hid hbl2
      clear hf1 hfl bT br rc kk own tc kA hcg hbl2 tw
      by_cases h2 : 2 ≤ k
      ·have hi2 : (i : Int) + 2 < (n : Int) := by omega
       have hlk := h2
       go_wp2_with (at_builtin;(refine wpList_app1I (w := wr.alloc (.cells #[.int .i64 (sy : Int),.int .i64 (bi : Int),.int .i64 (ba : Int)] 212)) rfl _ _ 25 rfl (T + 1) i0 Tryz.underlying25 hi hz0 hz1 hz2 (.slice a' i c') i out (sy : Int) _ rfl rfl (by simp) OWA.out (by omega) (by simp;omega) ?_;intro a6 c6 w6 own6 k6;have hy6 := YG.out;have tc6 := TC.out.keeps k6 (fun hm => by have := YL.out _ hm;omega);clear d0 d1 d2;obtain ⟨d0,d1,d2,-,-,-⟩ := tc6.three))
       have HKY : Hid (∀ x,x < T + 1 → x ∉ (match Value.ownBlock (.slice a' i c') with | some g => [g] | none => [])) := fun x hx hm => by have := YG.out x hm;omega
       obtain ⟨x1,x2,x3,x4,x5⟩ := HREL.out
       have x1' := (x1.keeps KA.out (by simp)).keeps k6 (HKY.out _ (by omega))
       have x2' := (x2.keeps KA.out (by simp)).keeps k6 (HKY.out _ (by omega))
       have x3' := (x3.keep KA.out).keepsC k6 (HKY.out _ (by omega)) (fun h0 => HKY.out _ (by have := HLG.out h0;omega))
       have x4' := (x4.keep KA.out).keeps k6 (fun ad nn cp he _ hm => by cases he;exact HKY.out _ (by simp only;omega) hm)
       have x5' : Keeps w w6 [] := (x5.then KA.out).trans k6 (fun j hj hl => by have := YG.out j hj;omega)
       have hs6 := k6.size
       have OW6 := Lib.hid own6
       clear x1 x2 x3 x4 x5 own6 k6 HREL OWA tc6 TC
       by_cases hA : bi ≤ b
       ·have hbi : bi ≤ 9 := by have := (HINC.out 0 (Nat.two_pow_pos _)).2;omega
        have HT := Lib.hid (btake_ok R g b bi B w6 x3' hA (by omega))
        have hvl := bitsAt_lt B (b - bi) bi
        have hf := HFL1.out
        rw [if_pos hlk,tb_take hbl hA] at hf
        simp only at hf
        obtain ⟨v,hv⟩ : ∃ v,bitsAt B (b - bi) bi = v := ⟨_,rfl⟩
        rw [hv] at HT hvl hf
        have hin2 := (HINC.out v hvl).1
        have HF2 := Lib.hid hf
        have X1 := Lib.hid (show _ ∧ _ ∧ _ ∧ _ from ⟨x1',x2',x4',x5'⟩)
        clear hf hv x1' x2' x3' x4' x5'
        refine HT.out.mono ?_
        rintro e w7 ⟨rfl,br7,k7⟩
        have d0' := (k7.cell (p := ⟨wr.heap.size,0,none⟩) (by simp only;omega) (by simp;omega)).trans d0
        have d1' := (k7.cell (p := ⟨wr.heap.size,1,none⟩) (by simp only;omega) (by simp;omega)).trans d1
        have d2' := (k7.cell (p := ⟨wr.heap.size,2,none⟩) (by simp only;omega) (by simp;omega)).trans d2
        have HNX := Lib.hid (next_any sy bi ba v w7 hbi hvl (by omega))
        have BR7 := Lib.hid br7
        have hs7 := k7.size
        have K7 := Lib.hid k7
        clear d0 d1 d2 br7 k7 c0 cc0 cc1 cc2
        go_wp2_with (go_at_call 190;(refine HNX.out.mono ?_;rintro e w8 ⟨rfl,k8⟩;have t8 := (X1.out.2.1.keeps K7.out (by simp;omega)).keeps k8 (by simp);have c0 := t8.cell 1;have f0 := t8.frozen 1;have hlt8 := t8.lt;simp at c0))
        have kset : Keeps w8 (w8.setCell ⟨T,1,none⟩ (.int .i64 ((ba + v : Nat) : Int))) [T] := (Keeps.refl w8 _).setCell (.inr (by simp)) _
        have t9 : Blk (w8.setCell ⟨T,1,none⟩ (.int .i64 ((ba + v : Nat) : Int))) T #[.int .i64 (other : Int),.int .i64 ((ba + v : Nat) : Int)] 232 := by
         have := t8.set 1 (.int .i64 ((ba + v : Nat) : Int))
         simpa using this
        have T9 := Lib.hid t9
        have K8 := Lib.hid (show _ ∧ _ from ⟨k8,kset⟩)
        have hs8 := k8.size
        have hs9 := kset.size
        clear t9 t8 k8 kset c0 f0
        go_roundw
        case rel =>
         obtain ⟨y1,-,y3,y4⟩ := X1.out
         obtain ⟨k8,kset⟩ := K8.out
         have hwT : w.heap.size < T := by omega
         refine ⟨i + 1,b - bi,other,ba + v,c6,a6,out ++ [(sy : Int)],by go_num,by omega,rfl,((y1.keeps K7.out (by simp;omega)).keeps k8 (by simp)).keeps kset (by simp;omega),by rw [twoV_even (by omega)];exact T9.out,(BR7.out.keep k8).keepsC kset (by simp;omega) (fun h0 => by have := HLG.out h0;simp;omega),?_,?_,Nat.lt_of_lt_of_le (show T < w8.heap.size by omega) hs9,?_,hoS,hin2,?_⟩
         ·exact ((y3.keeps K7.out (fun ad nn cp he _ hm => by cases he;have := List.mem_singleton.1 hm;simp only at this;omega)).keep k8).keeps kset (fun ad nn cp he _ hm => by cases he;have := List.mem_singleton.1 hm;simp only at this;omega)
         ·exact ((y4.trans K7.out (fun j hj hl => by have := List.mem_singleton.1 hj;omega)).then k8).trans kset (fun j hj hl => by have := List.mem_singleton.1 hj;omega)
         ·exact own_old (own_keeps (own_old OW6.out K7.out (fun x hx hm => by have := List.mem_singleton.1 hm;have := (OW6.out.lt x hx).1;omega)) k8) kset (fun x hx hm => by have := List.mem_singleton.1 hm;have := (OW6.out.lt x hx).1;omega)
         ·rw [hk1];exact HF2.out
        case measure => simp [intOf];omega
       ·have hbi : bi ≤ 9 := by have := (HINC.out 0 (Nat.two_pow_pos _)).2;omega
        have HT := Lib.hid (btake_no R g b bi B w6 x3' (by omega) (by omega))
        have hf := HFL1.out
        rw [if_pos hlk,tb_short hbl (by omega)] at hf
        simp only at hf
        have HF2 := Lib.hid hf
        have X5 := Lib.hid x5'
        clear hf x1' x2' x3' x4' x5' d0 d1 d2 c0 cc0 cc1 cc2
        refine HT.out.mono ?_
        rintro e w7 ⟨rfl,k7⟩
        go_wp2_with fail
        go_ret2
        refine ⟨X5.out.then k7,?_⟩
        rw [← HF2.out]
        exact ⟨by decide,rfl⟩
      ·have hi2 : decide ((i : Int) + 2 < (n : Int)) = false := decide_eq_false (by omega)
       have hi2n : decide (i + 2 < n) = false := decide_eq_false (by omega)
       have hf := HFL1.out
       rw [if_neg h2] at hf
       have HF2 := Lib.hid hf
       clear hf
       go_wp2_with (at_builtin;(refine wpList_app1I (w := wr.alloc (.cells #[.int .i64 (sy : Int),.int .i64 (bi : Int),.int .i64 (ba : Int)] 212)) rfl _ _ 25 rfl (T + 1) i0 Tryz.underlying25 hi hz0 hz1 hz2 (.slice a' i c') i out (sy : Int) _ rfl rfl (by simp) OWA.out (by omega) (by simp;omega) ?_;intro a6 c6 w6 own6 k6;have hy6 := YG.out;have tc6 := TC.out.keeps k6 (fun hm => by have := YL.out _ hm;omega);clear d0 d1 d2;obtain ⟨d0,d1,d2,-,-,-⟩ := tc6.three))
       have HKY : Hid (∀ x,x < T + 1 → x ∉ (match Value.ownBlock (.slice a' i c') with | some g => [g] | none => [])) := fun x hx hm => by have := YG.out x hm;omega
       obtain ⟨x1,x2,x3,x4,x5⟩ := HREL.out
       have x1' := (x1.keeps KA.out (by simp)).keeps k6 (HKY.out _ (by omega))
       have x2' := (x2.keeps KA.out (by simp)).keeps k6 (HKY.out _ (by omega))
       have x3' := (x3.keep KA.out).keepsC k6 (HKY.out _ (by omega)) (fun h0 => HKY.out _ (by have := HLG.out h0;omega))
       have x4' := (x4.keep KA.out).keeps k6 (fun ad nn cp he _ hm => by cases he;exact HKY.out _ (by simp only;omega) hm)
       have x5' : Keeps w w6 [] := (x5.then KA.out).trans k6 (fun j hj hl => by have := YG.out j hj;omega)
       have hs6 := k6.size
       have OW6 := Lib.hid own6
       clear x1 x2 x3 x4 x5 own6 k6 HREL OWA tc6 TC
       have X1 := Lib.hid (show _ ∧ _ ∧ _ ∧ _ ∧ _ from ⟨x1',x2',x3',x4',x5'⟩)
       clear x1' x2' x3' x4' x5' d0 d1 d2 c0 cc0 cc1 cc2
       go_roundw
       case rel =>
        obtain ⟨y1,y2,y3,y4,y5⟩ := X1.out
        exact ⟨i + 1,b,other,now,c6,a6,out ++ [(sy : Int)],by go_num,by omega,rfl,y1,by rw [twoV_even (by omega)];exact y2,y3,y4,y5,by omega,OW6.out,hoS,hnS,by show _ = _;rw [hk1];exact HF2.out⟩
       case measure => simp [intOf];omega
    ·obtain rfl : i = n := by omega
     have hiI : decide ((i : Int) < (i : Int)) = false := by simp
     have hf1 := hfl.out
     rw [Nat.sub_self] at hf1
     unfold flowG at hf1
     rw [bwdL_len hbl] at hf1
     have HL := Lib.hid (bwdLeft_any R g B 0 b wr br)
     rw [Nat.sub_zero] at HL
     have OW := Lib.hid own
     have HSZ := Lib.hid hszr
     clear bT tw br rc own hfl hiI
     by_cases hb0 : b = 0
     ·subst hb0
      rw [if_pos rfl] at hf1
      have HF1 := Lib.hid hf1
      clear hf1
      go_wp2_with (go_at_call 191;(refine HL.out.mono ?_;rintro e w5 ⟨rfl,k5⟩))
      go_ret2
      refine ⟨kk.then k5,?_⟩
      rw [← HF1.out]
      have hol : out.length = i := by have := OW.out.1;simpa using this
      refine ⟨_,rfl,?_,?_⟩
      ·have h := OW.out
       rw [← hol] at h ⊢
       exact (own_reads h).keeps k5
      ·intro ad n' c9 he
       cases he
       have := (OW.out.lt ad.block rfl).1
       omega
     ·rw [if_neg hb0] at hf1
      have HF1 := Lib.hid hf1
      have hbz : ((b : Int) != 0) = true := by simp;omega
      clear hf1
      go_wp2_with (go_at_call 191;(refine HL.out.mono ?_;rintro e w5 ⟨rfl,k5⟩))
      go_ret2
      refine ⟨kk.then k5,?_⟩
      rw [← HF1.out]
      exact ⟨by decide,rfl⟩

theorem fdec_any (g : Int) (nv bv : Value) (norm B : List Int) (n : Nat) (w : World) (hv : RdI .i64 w nv norm) (hnl : norm.length ≤ 1000000) (hb : ∀ x ∈ norm,-9223372036854775808 ≤ x ∧ x ≤ 9223372036854775807) (hB : RdI .u8 w bv B) (hl : B.length ≤ 1000000) (hby : ∀ x ∈ B,0 ≤ x ∧ x ≤ 255) (hn : n ≤ 131072) :
  Calls Tryz.prog 160 #[.agg #[.int .i64 g,nv],bv,.int .i64 (n : Int)] w (FlowEnd w (flowD g norm B n)) := by
 unfold flowD
 cases hok : okN g norm 256 9 with
 | false =>
  rw [if_pos rfl]
  exact fdec_bad hv hnl hb hok
 | true =>
  rw [if_neg (by simp)]
  obtain ⟨G,rfl,ht⟩ := tbl_ok hok
  by_cases hz : B.getD (B.length - 1) 0 = 0
  ·rw [if_pos hz]
   exact fdec_mark G hv hb ht hok hB hl hz hn
  ·rw [if_neg hz,Int.toNat_natCast]
   exact fdec_ok G nv bv norm B n w hv hb ht hok hB hl hby hz hn


end Go.Proofs.YtcmagccfagijlaaGreat
