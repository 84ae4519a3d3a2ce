/-
  The states and bits of a flow, taken from the last symbol to the first, in plain words. (No walk is done here.)
  A description in format 1, in plain words: the counts, the table, the bytes; and that it is read back, whatever follows; so is one in format 0. (No walk is done here.)
  Walks over package spread: Positions; package states: New and the coder's functions. (Printed by mkZf.py.)
  Walks over package states: none, of, state, Log, Lowest, Predecessor. (Printed by mkZg.py.)
-/
import Derived.Test.YtcmagccfagijlaaGreatQ20
import Derived.Test.YtcmagccfagijlaaGreatQ21
import Derived.Test.YtcmagccfagijlaaGreatQ23
import Derived.Test.YtcmagccfagijlaaGreatQ16
import Derived.Test.YtcmagccfagijlaaGreatQ12
namespace Go.Proofs.YtcmagccfagijlaaGreat
set_option linter.unusedVariables false
set_option linter.unusedSimpArgs false
set_option linter.unusedSectionVars false
set_option maxRecDepth 100000
section
def twoE (g : Nat) (norm : List Int) (l : List Nat) (i : Nat) : Nat := if i % 2 = 0 then (encG g norm (l.drop i)).1 else (encG g norm (l.drop i)).2.1
def twoO (g : Nat) (norm : List Int) (l : List Nat) (i : Nat) : Nat := if i % 2 = 0 then (encG g norm (l.drop i)).2.1 else (encG g norm (l.drop i)).1
def bitE (g : Nat) (norm : List Int) (l : List Nat) (i : Nat) : List Bool := (encG g norm (l.drop i)).2.2
theorem enc_last {g i s : Nat} {norm : List Int} {l : List Nat} (hs : l[i]? = some s) (h2 : l.length ≤ i + 2) :
  encG g norm (l.drop i) = (lowN g norm s,(encG g norm (l.drop (i + 1))).1,(encG g norm (l.drop (i + 1))).2.2) := by
 obtain ⟨hi,he⟩ := List.getElem?_eq_some_iff.1 hs
 rw [List.drop_eq_getElem_cons hi,he,encG,if_pos (by rw [List.length_drop];omega)]
theorem enc_more {g i s : Nat} {norm : List Int} {l : List Nat} (hs : l[i]? = some s) (h2 : i + 2 < l.length) :
  encG g norm (l.drop i) = (predS g norm (encG g norm (l.drop (i + 1))).2.1 s,(encG g norm (l.drop (i + 1))).1,(encG g norm (l.drop (i + 1))).2.2 ++ bitsN (predV g norm (encG g norm (l.drop (i + 1))).2.1 s) (predB g norm (encG g norm (l.drop (i + 1))).2.1 s)) := by
 obtain ⟨hi,he⟩ := List.getElem?_eq_some_iff.1 hs
 rw [List.drop_eq_getElem_cons hi,he,encG,if_neg (by rw [List.length_drop];omega)]
theorem two_fin (g : Nat) (norm : List Int) (l : List Nat) : twoE g norm l l.length = 0 ∧ twoO g norm l l.length = 0 ∧ bitE g norm l l.length = [] := by
 simp [twoE,twoO,bitE,encG]
theorem two_zero (g : Nat) (norm : List Int) (l : List Nat) : twoE g norm l 0 = (encG g norm l).1 ∧ twoO g norm l 0 = (encG g norm l).2.1 ∧ bitE g norm l 0 = (encG g norm l).2.2 := by
 simp [twoE,twoO,bitE]
theorem two_last_even {g i s : Nat} {norm : List Int} {l : List Nat} (hs : l[i]? = some s) (h2 : l.length ≤ i + 2) (hp : i % 2 = 0) :
  twoE g norm l i = lowN g norm s ∧ twoO g norm l i = twoO g norm l (i + 1) ∧ bitE g norm l i = bitE g norm l (i + 1) := by
 have h := enc_last (g := g) (norm := norm) hs h2
 have hq : ¬ (i + 1) % 2 = 0 := by omega
 simp only [twoE,twoO,bitE,h,if_pos hp,if_neg hq]
 exact ⟨trivial,trivial,trivial⟩
theorem two_last_odd {g i s : Nat} {norm : List Int} {l : List Nat} (hs : l[i]? = some s) (h2 : l.length ≤ i + 2) (hp : i % 2 = 1) :
  twoO g norm l i = lowN g norm s ∧ twoE g norm l i = twoE g norm l (i + 1) ∧ bitE g norm l i = bitE g norm l (i + 1) := by
 have h := enc_last (g := g) (norm := norm) hs h2
 have hp' : ¬ i % 2 = 0 := by omega
 have hq : (i + 1) % 2 = 0 := by omega
 simp only [twoE,twoO,bitE,h,if_neg hp',if_pos hq]
 exact ⟨trivial,trivial,trivial⟩
theorem two_more_even {g i s : Nat} {norm : List Int} {l : List Nat} (hs : l[i]? = some s) (h2 : i + 2 < l.length) (hp : i % 2 = 0) :
  twoE g norm l i = predS g norm (twoE g norm l (i + 1)) s ∧ twoO g norm l i = twoO g norm l (i + 1) ∧
   bitE g norm l i = bitE g norm l (i + 1) ++ bitsN (predV g norm (twoE g norm l (i + 1)) s) (predB g norm (twoE g norm l (i + 1)) s) := by
 have h := enc_more (g := g) (norm := norm) hs h2
 have hq : ¬ (i + 1) % 2 = 0 := by omega
 simp only [twoE,twoO,bitE,h,if_pos hp,if_neg hq]
 exact ⟨trivial,trivial,trivial⟩
theorem two_more_odd {g i s : Nat} {norm : List Int} {l : List Nat} (hs : l[i]? = some s) (h2 : i + 2 < l.length) (hp : i % 2 = 1) :
  twoO g norm l i = predS g norm (twoO g norm l (i + 1)) s ∧ twoE g norm l i = twoE g norm l (i + 1) ∧
   bitE g norm l i = bitE g norm l (i + 1) ++ bitsN (predV g norm (twoO g norm l (i + 1)) s) (predB g norm (twoO g norm l (i + 1)) s) := by
 have h := enc_more (g := g) (norm := norm) hs h2
 have hp' : ¬ i % 2 = 0 := by omega
 have hq : (i + 1) % 2 = 0 := by omega
 simp only [twoE,twoO,bitE,h,if_neg hp',if_pos hq]
 exact ⟨trivial,trivial,trivial⟩
theorem symsOk_drop {norm : List Int} {l : List Nat} (h : symsOk norm l) (i : Nat) : symsOk norm (l.drop i) := fun s hs => h s (List.mem_of_mem_drop hs)
theorem two_lt {g : Nat} {norm : List Int} {l : List Nat} (h : TblOk g norm) (hl : symsOk norm l) (i : Nat) : twoE g norm l i < 2 ^ g ∧ twoO g norm l i < 2 ^ g := by
 obtain ⟨h1,h2⟩ := encG_lt h (symsOk_drop hl i)
 unfold twoE twoO
 split
 ·exact ⟨h1,h2⟩
 ·exact ⟨h2,h1⟩
theorem encG_bits {g : Nat} {norm : List Int} (h : TblOk g norm) : ∀ {l : List Nat},symsOk norm l → (encG g norm l).2.2.length ≤ 9 * l.length
 | [],_ => by simp [encG]
 | s :: rest,hl => by
  have hr : symsOk norm rest := fun x hx => hl x (List.mem_cons_of_mem _ hx)
  have ih := encG_bits h hr
  obtain ⟨h1,h2⟩ := hl s (by simp)
  have h3 := (predB_ok h h1 h2 (encG_lt h hr).2).2.2.2
  have h4 := h.g9
  rw [encG]
  split
  ·simp only [List.length_cons];omega
  ·simp only [List.length_append,bitsN_len,List.length_cons];omega
end

section
def upC (h : List Int) (c : Int) : List Int := h.set c.toNat (h.getD c.toNat 0 + 1)
def cntW (l : List Int) : List Int := l.foldl upC (List.replicate 12 0)
def oneW (l : List Int) : Bool := (cntW l).any (fun n => decide (n = (l.length : Int)))
def addW (l : List Int) : List Int := if oneW l = true then upC (cntW l) ((l.getD 0 0 + 1) % 12) else cntW l
def nmW (l : List Int) : List Int := normF (addW l) 64 (sumZ (addW l))
def flW (l : List Int) : List Int := flowE 6 (nmW l) (l.map Int.toNat)
def codedE (l : List Int) : List Int := varI l.length ++ [1] ++ descE 6 (nmW l) ++ varI (flW l).length ++ flW l

theorem upC_len (h : List Int) (c : Int) : (upC h c).length = h.length := by simp [upC]
theorem cntW_snoc (l : List Int) (x : Int) : cntW (l ++ [x]) = upC (cntW l) x := by simp [cntW]
theorem upC_get (h : List Int) (c : Int) (i : Nat) (hc : c.toNat < h.length) : (upC h c).getD i 0 = if i = c.toNat then h.getD c.toNat 0 + 1 else h.getD i 0 := by
 unfold upC
 rw [getD_set _ _ _ _ hc]
theorem upC_sum (h : List Int) (c : Int) (hc : c.toNat < h.length) : sumZ (upC h c) = sumZ h + 1 := by
 unfold upC
 rw [sumZ_set _ _ _ hc]
 omega
structure CntOk (h : List Int) (n : Nat) : Prop where
 len : h.length = 12
 low : ∀ i,0 ≤ h.getD i 0
 sum : sumZ h = (n : Int)
theorem CntOk.up {h : List Int} {n : Nat} (k : CntOk h n) {c : Int} (h0 : 0 ≤ c) (h1 : c ≤ 11) : CntOk (upC h c) (n + 1) := by
 have hc : c.toNat < h.length := by rw [k.len];omega
 refine ⟨by rw [upC_len,k.len],fun i => ?_,by rw [upC_sum _ _ hc,k.sum];omega⟩
 rw [upC_get _ _ _ hc]
 have a := k.low c.toNat
 have b := k.low i
 split <;> omega
theorem CntOk.zero : CntOk (List.replicate 12 0) 0 := ⟨by simp,fun i => by
 rw [List.getD_eq_getElem?_getD,List.getElem?_replicate]
 split <;> simp,by decide⟩
theorem cnt_fold : ∀ (l : List Int) (h : List Int) (n : Nat),(∀ x ∈ l,0 ≤ x ∧ x ≤ 11) → CntOk h n → CntOk (l.foldl upC h) (n + l.length) ∧ ∀ i,h.getD i 0 ≤ (l.foldl upC h).getD i 0 ∧ (((i : Nat) : Int) ∈ l → h.getD i 0 < (l.foldl upC h).getD i 0)
 | [],h,n,_,k => ⟨k,fun i => ⟨Int.le_refl _,fun hm => by cases hm⟩⟩
 | x :: l,h,n,hl,k => by
  obtain ⟨h0,h1⟩ := hl x (by simp)
  have ku := k.up h0 h1
  obtain ⟨a,b⟩ := cnt_fold l (upC h x) (n + 1) (fun y hy => hl y (by simp [hy])) ku
  have hx : x.toNat < h.length := by rw [k.len];omega
  refine ⟨by rw [List.length_cons,show n + (l.length + 1) = n + 1 + l.length by omega];exact a,fun i => ?_⟩
  obtain ⟨b1,b2⟩ := b i
  have e := upC_get h x i hx
  have hge : h.getD i 0 ≤ (upC h x).getD i 0 := by
   rw [e]
   split
   ·rename_i he
    rw [he];omega
   ·exact Int.le_refl _
  refine ⟨Int.le_trans hge b1,fun hm => ?_⟩
  rcases List.mem_cons.1 hm with he | hm
  ·have : i = x.toNat := by omega
   rw [if_pos this] at e
   rw [← this] at e
   show h.getD i 0 < (l.foldl upC (upC h x)).getD i 0
   omega
  ·have := b2 hm
   show h.getD i 0 < (l.foldl upC (upC h x)).getD i 0
   omega
theorem cntW_ok {l : List Int} (hl : ∀ x ∈ l,0 ≤ x ∧ x ≤ 11) : CntOk (cntW l) l.length ∧ ∀ i : Nat,((i : Nat) : Int) ∈ l → 0 < (cntW l).getD i 0 := by
 obtain ⟨a,b⟩ := cnt_fold l _ 0 hl CntOk.zero
 rw [Nat.zero_add] at a
 refine ⟨a,fun i hi => ?_⟩
 have := (b i).2 hi
 have h0 := CntOk.zero.low i
 exact Int.lt_of_le_of_lt h0 this
theorem addW_ok {l : List Int} (hl : ∀ x ∈ l,0 ≤ x ∧ x ≤ 11) : ∃ n,l.length ≤ n ∧ n ≤ l.length + 1 ∧ CntOk (addW l) n ∧ ∀ i : Nat,((i : Nat) : Int) ∈ l → 0 < (addW l).getD i 0 := by
 obtain ⟨a,b⟩ := cntW_ok hl
 unfold addW
 split
 ·have h0 : 0 ≤ (l.getD 0 0 + 1) % 12 := by omega
  have h1 : (l.getD 0 0 + 1) % 12 ≤ 11 := by omega
  refine ⟨l.length + 1,by omega,by omega,a.up h0 h1,fun i hi => ?_⟩
  have hc : ((l.getD 0 0 + 1) % 12).toNat < (cntW l).length := by rw [a.len];omega
  rw [upC_get _ _ _ hc]
  have := b i hi
  have := a.low ((l.getD 0 0 + 1) % 12).toNat
  split <;> omega
 ·exact ⟨l.length,by omega,by omega,a,b⟩
theorem posN_some : ∀ (l : List Int) (i : Nat),0 < l.getD i 0 → 0 < posN l
 | [],i,h => by simp at h
 | c :: l,0,h => by
  have := (posN_bound l).1
  have h' : 0 < c := h
  rw [posN,if_pos h']
  omega
 | c :: l,i + 1,h => by
  have h' : 0 < l.getD i 0 := by simpa using h
  have := posN_some l i h'
  rw [posN]
  split <;> omega

theorem nmW_ok {l : List Int} (hl : ∀ x ∈ l,0 ≤ x ∧ x ≤ 11) (h0 : 0 < l.length) : 
  TblOk 6 (nmW l) ∧ (nmW l).getD ((nmW l).length - 1) 0 ≠ 0 ∧ (nmW l).length = usedN (addW l) 12 ∧ (nmW l).length ≤ 12 ∧ symsOk (nmW l) (l.map Int.toNat) ∧ (addW l).length = 12 ∧ 0 < sumZ (addW l) ∧ sumZ (addW l) ≤ (l.length : Int) + 1 ∧ (∀ x ∈ addW l,0 ≤ x) ∧ 0 < posN (addW l) ∧ posN (addW l) ≤ 64 := by
 obtain ⟨n,n1,n2,k,m⟩ := addW_ok hl
 have hlen := k.len
 have hpb := posN_bound (addW l)
 have hx0 : ∃ x,x ∈ l := ⟨_,List.getElem_mem h0⟩
 obtain ⟨x,hx⟩ := hx0
 have hxb := hl x hx
 have hp0 : 0 < posN (addW l) := posN_some _ x.toNat (m _ (by rw [Int.toNat_of_nonneg hxb.1];exact hx))
 have hp : posN (addW l) ≤ 64 := by omega
 have hs := k.sum
 have hu := usedN_pos hp0
 have hT : 0 < sumZ (addW l) := by omega
 have hpos : ∀ i,i < (addW l).length → 0 ≤ (addW l).getD i 0 := fun i _ => k.low i
 obtain ⟨t1,t2,t3,t4⟩ := normF_ok (S := 64) (log := 6) (C := addW l) (T := sumZ (addW l)) (by decide) (by decide) hT rfl hpos hp hu (by omega)
 have hul := usedN_le (addW l) (addW l).length
 refine ⟨t1,t2,by rw [← hlen];exact t3,?_,fun s hs' => ?_,hlen,hT,by omega,fun y hy => ?_,hp0,hp⟩
 ·show (normF _ _ _).length ≤ 12
  rw [t3];omega
 ·obtain ⟨y,hy,rfl⟩ := List.mem_map.1 hs'
  have hyb := hl y hy
  have := t4 y.toNat (by omega) (m _ (by rw [Int.toNat_of_nonneg hyb.1];exact hy))
  exact this
 ·obtain ⟨j,hj⟩ := List.getElem?_of_mem hy
  have := k.low j
  rw [List.getD_eq_getElem?_getD,hj] at this
  exact this
theorem okN_of {g : Nat} {norm : List Int} (h : TblOk g norm) (hl : norm.getD (norm.length - 1) 0 ≠ 0) : okN (g : Int) norm 256 9 = true := by
 have := h.g9
 have := h.len
 exact decide_eq_true ⟨by omega,by omega,h.pos,by omega,hl,h.low,by rw [h.sum];simp⟩
theorem last_of {l : List Int} (h0 : 0 < l.length) (hl : l.getD (l.length - 1) 0 ≠ 0) : l.getLast? ≠ some 0 := by
 rw [List.getLast?_eq_getElem?]
 intro h
 rw [List.getD_eq_getElem?_getD,h] at hl
 exact hl rfl
theorem descE_len {g : Nat} {norm : List Int} (h : TblOk g norm) (hn : norm.length ≤ 12) : (descE g norm).length ≤ 200 := by
 have h1 := packB_len (descL g norm)
 have h9 : 2 ^ g ≤ 2 ^ 9 := Nat.pow_le_pow_right (by decide) h.g9
 rw [show (2 : Nat) ^ 9 = 512 by decide] at h9
 have h2 := normsE_len (f := norm.length) (l := norm) h9
 unfold descE descL at *
 rw [List.length_append,bitsN_len] at h1
 omega
theorem flowB_len {g : Nat} {norm : List Int} (h : TblOk g norm) {l : List Nat} (hl : symsOk norm l) : (flowB g norm l).length ≤ 9 * l.length + 18 := by
 have h1 := encG_bits h hl
 have h9 := h.g9
 unfold flowB
 split
 all_goals (try split)
 all_goals simp only [List.length_append,bitsN_len,List.length_nil,List.append_assoc]
 all_goals omega

theorem flW_len {l : List Int} (hl : ∀ x ∈ l,0 ≤ x ∧ x ≤ 11) (h0 : 0 < l.length) (h255 : l.length ≤ 255) : (flW l).length ≤ 2400 := by
 obtain ⟨t1,-,-,-,t5,-⟩ := nmW_ok hl h0
 have h1 := packB_len (flowB 6 (nmW l) (l.map Int.toNat) ++ [true])
 have h2 := flowB_len t1 t5
 rw [List.length_append,List.length_singleton] at h1
 rw [List.length_map] at h2
 unfold flW flowE
 omega
theorem drop_app {B L Z : List Int} {k : Nat} (h : B.drop k = L ++ Z) : B.drop (k + L.length) = Z := by
 rw [← List.drop_drop,h];simp
theorem bytes_read {B L Z : List Int} {k : Nat} (h : B.drop k = L ++ Z) (hL : 0 < L.length) : bytesE B k (L.length : Int) = 0 ∧ bytesX B k (L.length : Int) = L ∧ bytesK B k (L.length : Int) = k + L.length := by
 have hb : L.length + Z.length = B.length - k := by rw [← List.length_append,← h,List.length_drop]
 have hE : bytesE B k (L.length : Int) = 0 := by unfold bytesE;rw [if_neg (by omega),if_neg (by omega)]
 unfold bytesX bytesK
 rw [if_pos hE,if_pos hE,Int.toNat_natCast,h,List.take_left' rfl]
 exact ⟨hE,rfl,rfl⟩
theorem map_cast {l : List Int} (hl : ∀ x ∈ l,0 ≤ x ∧ x ≤ 11) : (l.map Int.toNat).map (fun (s : Nat) => (s : Int)) = l := by
 rw [List.map_map]
 conv => rhs;rw [← List.map_id l]
 refine List.map_congr_left (fun x hx => ?_)
 have := (hl x hx).1
 simp only [Function.comp,id]
 omega
theorem flowE_pos (g : Nat) (norm : List Int) (l : List Nat) : 0 < (flowE g norm l).length := by
 have h := (mark_top (L := flowB g norm l)).1
 unfold flowE
 by_cases h0 : 0 < (packB (flowB g norm l ++ [true])).length
 ·exact h0
 ·exfalso
  have : packB (flowB g norm l ++ [true]) = [] := List.eq_nil_of_length_eq_zero (by omega)
  rw [this] at h
  exact h rfl
theorem codedR_read {B l Z : List Int} {k : Nat} (hl : ∀ x ∈ l,0 ≤ x ∧ x ≤ 11) (h0 : 0 < l.length) (h255 : l.length ≤ 255) (h : B.drop k = descE 6 (nmW l) ++ (varI (flW l).length ++ (flW l ++ Z))) :
  codedR B k l.length = (.ok l,k + (descE 6 (nmW l)).length + (varI (flW l).length).length + (flW l).length) := by
 obtain ⟨t1,t2,t3,t4,t5,-⟩ := nmW_ok hl h0
 have hdl := descE_len t1 t4
 have hfl := flW_len hl h0 h255
 have hd : descP ((B.drop k).take 1024) 12 6 = .ok (6,nmW l,(descE 6 (nmW l)).length) := by
  rw [h,List.take_append,List.take_of_length_le (by omega)]
  exact descP_descE (by decide) (by decide) (Nat.le_refl 6) t4 t1.low t1.sum (last_of t1.pos t2)
 have h1 := drop_app h
 obtain ⟨n1,n2,n3⟩ := num_read (M := 131072) (by omega) (by omega) h1
 have h2 := drop_app h1
 obtain ⟨b1,b2,b3⟩ := bytes_read h2 (flowE_pos _ _ _)
 unfold codedR
 rw [hd]
 simp only
 rw [n1,n2,n3,if_neg (by simp),b1,if_neg (by simp),b2,b3]
 have hf := flowD_flowE t1 (okN_of t1 t2) t5
 rw [List.length_map,map_cast hl] at hf
 change flowD (6 : Int) (nmW l) (flW l) l.length = _ at hf
 show (flowD (6 : Int) (nmW l) (flW l) l.length,_) = _
 rw [hf]
theorem okW_len {l : List Int} (h : okW l = true) : 0 < l.length ∧ l.length ≤ 255 := by
 simp only [okW,lenW,Bool.and_eq_true] at h
 simp at h
 omega
theorem getW_coded {B l Z : List Int} {k : Nat} (hw : okW l = true) (h : B.drop k = codedE l ++ Z) : getW B k = .ok (tOf l,k + (codedE l).length) := by
 have hl := okW_bound hw
 obtain ⟨h0,h255⟩ := okW_len hw
 have e : codedE l ++ Z = varI l.length ++ (1 :: (descE 6 (nmW l) ++ (varI (flW l).length ++ (flW l ++ Z)))) := by simp [codedE]
 have elen : (codedE l).length = (varI l.length).length + 1 + ((descE 6 (nmW l)).length + (varI (flW l).length).length + (flW l).length) := by simp [codedE];omega
 rw [e] at h
 obtain ⟨n1,n2,n3⟩ := num_read (M := 255) (by omega) h255 h
 obtain ⟨x1,x2,x3⟩ := byteX_drop (drop_app h)
 have hc := codedR_read hl h0 h255 x3
 unfold getW
 rw [n2,if_neg (by simp),n1,if_neg (by omega),n3,if_neg (by omega),x2,if_neg (by decide),if_pos rfl,hc]
 simp only
 unfold finW
 rw [if_pos hw,elen]
 congr 2
 omega
theorem nibX_nibF : ∀ l : List Int,(∀ x ∈ l,0 ≤ x ∧ x ≤ 11) → (nibX (nibF l)).take l.length = l ∧ ((nibX (nibF l))[l.length]?).getD 0 = 0
 | [],_ => by simp [nibF,nibX]
 | [a],h => by
  have := h a (by simp)
  have e1 : a % 16 = a := by omega
  have e2 : a / 16 = 0 := by omega
  simp [nibF,nibX,e1,e2]
 | a :: b :: l,h => by
  have h1 := h a (by simp)
  have h2 := h b (by simp)
  obtain ⟨i1,i2⟩ := nibX_nibF l (fun x hx => h x (by simp [hx]))
  have e1 : (a + 16 * b) % 16 = a := by omega
  have e2 : (a + 16 * b) / 16 = b := by omega
  simp only [nibF,nibX,e1,e2,List.length_cons]
  refine ⟨by simp [i1],by simpa using i2⟩
theorem getW_halves {B l Z : List Int} {k : Nat} (hw : okW l = true) (h : B.drop k = halvesL l ++ Z) : getW B k = .ok (tOf l,k + (halvesL l).length) := by
 have hl := okW_bound hw
 obtain ⟨h0,h255⟩ := okW_len hw
 have e : halvesL l ++ Z = varI l.length ++ (0 :: (nibF l ++ Z)) := by simp [halvesL]
 have elen : (halvesL l).length = (varI l.length).length + 1 + (nibF l).length := by simp [halvesL];omega
 rw [e] at h
 obtain ⟨n1,n2,n3⟩ := num_read (M := 255) (by omega) h255 h
 obtain ⟨x1,x2,x3⟩ := byteX_drop (drop_app h)
 have hnl := nib_len l
 obtain ⟨b1,b2,b3⟩ := bytes_read x3 (by omega)
 rw [hnl] at b1 b2 b3
 obtain ⟨i1,i2⟩ := nibX_nibF l hl
 have hE : halvE B (k + (varI l.length).length + 1) l.length = 0 := by
  unfold halvE
  rw [b1,if_neg (by simp),b2,i2,if_pos rfl]
 have hX : halvX B (k + (varI l.length).length + 1) l.length = l := by
  unfold halvX
  rw [b2,i1]
 unfold getW
 rw [n2,if_neg (by simp),n1,if_neg (by omega),n3,if_neg (by omega),x2,if_pos rfl,hE,if_neg (by simp),hX,b3]
 unfold finW
 rw [if_pos hw,elen,hnl]
 congr 2
 omega
end

section
open Go.RowKit

def placesI (g : Nat) (norm : List Int) (s i : Nat) : List Nat := (List.range i).filter (fun p => placeN g norm p == s)
theorem placesI_all (g : Nat) (norm : List Int) (s : Nat) : placesI g norm s (2 ^ g) = placesOf g norm s := rfl
theorem placesI_yes {g s i : Nat} {norm : List Int} (h : placeN g norm i = s) : placesI g norm s (i + 1) = placesI g norm s i ++ [i] := by
 simp [placesI,List.range_succ,List.filter_append,h]
theorem placesI_no {g s i : Nat} {norm : List Int} (h : placeN g norm i ≠ s) : placesI g norm s (i + 1) = placesI g norm s i := by
 simp [placesI,List.range_succ,List.filter_append,h]
set_option maxHeartbeats 4000000 in
theorem positions_ok (g s : Nat) (v : Value) (norm : List Int) (w : World) (hv : RdI .i64 w v norm) (hb : ∀ x ∈ norm,-9223372036854775808 ≤ x ∧ x ≤ 9223372036854775807) (hok : TblOk g norm) (hok' : okN (g : Int) norm 256 9 = true) :
  Calls Tryz.prog 216 #[.agg #[.int .i64 (g : Int),v],.int .i64 (s : Int)] w fun e w' => ∃ a n c,e = .returned (.tuple #[.slice a n c,.int .i64 0]) ∧ n = (placesOf g norm s).length ∧ w'.ownsRow w.heap.size 3 1 (.slice a n c) n ((castL (placesOf g norm s)).map (.int .i64)) ∧ Keeps w w' [] := by
 obtain ⟨i0,hi,hz0,hz1,hz2⟩ := info_parts Tryz.infoInt
 obtain ⟨A0,m,cp0,rfl,hnl,-⟩ := hv.form
 have k0 := (Keeps.refl w []).alloc (.cells #[.int .i64 (g : Int),.slice A0 m cp0] 27)
 have b0 := Blk.new w #[.int .i64 (g : Int),.slice A0 m cp0] 27
 have HC := Lib.hid (spread_ok g _ norm _ (hv.keeps k0) hb hok hok')
 obtain ⟨hS1,hS2⟩ := hok.size
 have HPL : Hid (∀ t,t < 2 ^ g → (castL (placesL g norm))[t]? = some ((placeN g norm t : Nat) : Int)) := fun t ht => by
  have h3 := placesL_get (g := g) (p := t) (norm := norm) ht
  simp [castL,h3]
 have HALL : Hid (placesI g norm s (2 ^ g) = placesOf g norm s) := placesI_all g norm s
 obtain ⟨PO,hPO⟩ : ∃ P,placesOf g norm s = P := ⟨_,rfl⟩
 rw [hPO] at HALL ⊢
 obtain ⟨S,hSe⟩ : ∃ S,2 ^ g = S := ⟨_,rfl⟩
 rw [hSe] at HC hS1 hS2 HPL HALL
 clear hv hnl hok' hb hok hSe hPO
 have c0 := b0.cell 0
 have c1 := b0.cell 1
 simp at c0 c1
 go_enter Tryz.func216,Tryz.ntmps216
 go_wp2_with (go_at_call 210;(refine HC.out.mono ?_;rintro e w1 ⟨O,hO,rfl,row1,k1⟩;have kk1 := k0.then k1;have ROW := Lib.hid row1;have HO := Lib.hid hO;clear row1 hO c0 c1))
 have hs1 := kk1.size
 go_loopw [8,21] (fun s8 s21 wr => ∃ (i n c : Nat) (a : Option Addr),i ≤ S ∧ s21 = .int .i64 (i : Int) ∧ s8 = .slice a n c ∧ n ≤ i ∧ Hid (n = (placesI g norm s i).length) ∧ wr.ownsRow w1.heap.size 3 1 (.slice a n c) n ((castL (placesI g norm s i)).map (.int .i64)) ∧ Keeps w1 wr []) (fun _ s21 _ => S - (intOf s21).toNat)
 case atStart => exact ⟨0,0,0,none,Nat.zero_le _,rfl,rfl,Nat.le_refl _,rfl,World.ownsRow_nil _ _ _ _,Keeps.refl _ _⟩
 case round =>
  obtain ⟨i,n,c,a,hiS,rfl,rfl,hni,hn,own,kk⟩ := hrel
  by_cases hlt : i < S
  ·have hiI : (i : Int) < (S : Int) := by omega
   have ci := (ROW.out.keeps kk (by simp)).at (HPL.out i hlt)
   have OW := Lib.hid own
   have KK := Lib.hid kk
   have hsr := kk.size
   by_cases hs : placeN g norm i = s
   ·have HY := Lib.hid (placesI_yes hs)
    have hsI : ((placeN g norm i : Nat) : Int) = (s : Int) := by rw [hs]
    rw [hsI] at ci
    have hss : ((s : Int) == (s : Int)) = true := by simp
    clear own kk hs hsI
    have OW1 : Hid (wr.ownsRow w1.heap.size 3 1 (.slice a n c) n ((castL (placesI g norm s i)).map (.int .i64))) := OW
    go_wp2_with (at_builtin;(refine wpList_app1I (w := wr) rfl _ _ 25 rfl w1.heap.size i0 Tryz.underlying25 hi hz0 hz1 hz2 (.slice a n c) n (castL (placesI g norm s i)) (i : Int) _ rfl rfl (by simp) OW1.out (by omega) (by omega) ?_;intro a6 c6 w6 own6 k6;have OW6 := Lib.hid own6;have K6 := Lib.hid k6;clear own6 k6))
    go_roundw
    case rel =>
     refine ⟨i + 1,n + 1,c6,a6,by omega,by go_num,rfl,by omega,?_,?_,keeps_row KK.out K6.out (fun g hg => (OW.out.lt g hg).1)⟩
     ·show _ = _
      rw [HY.out,List.length_append,List.length_singleton,← hn.out]
     ·rw [HY.out]
      have h := OW6.out
      simpa [castL] using h
    case measure => simp [intOf];omega
   ·have HY := Lib.hid (placesI_no hs)
    have hsI : (((placeN g norm i : Nat) : Int) == (s : Int)) = false := by simp;omega
    have hsN : (placeN g norm i == s) = false := by simpa using hs
    obtain ⟨y,hy⟩ : ∃ y,placeN g norm i = y := ⟨_,rfl⟩
    rw [hy] at ci hsI hsN
    clear own kk hs hy
    go_wp2_with fail
    go_roundw
    case rel => exact ⟨i + 1,n,c,a,by omega,by go_num,rfl,by omega,by show _ = _;rw [HY.out];exact hn.out,by rw [HY.out];exact OW.out,KK.out⟩
    case measure => simp [intOf];omega
  ·obtain rfl : i = S := by omega
   have hii : decide ((i : Int) < (i : Int)) = false := by simp
   have OW := Lib.hid own
   have KK := Lib.hid kk
   clear own kk
   go_wp2_with fail
   go_ret2
   exact ⟨a,n,c,rfl,by rw [← HALL.out];exact hn.out,by rw [← HALL.out];exact own_base OW.out hs1,kk1.then KK.out⟩

theorem own_diff {w : World} {b1 b2 s1 s2 n1 n2 : Nat} {e1 e2 : TypeId} {v1 v2 : Value} {xs1 xs2 : List Value} (h1 : w.ownsRow b1 e1 s1 v1 n1 xs1) (h2 : w.ownsRow b2 e2 s2 v2 n2 xs2) (he : e1 ≠ e2) : ∀ x y,v1.ownBlock = some x → v2.ownBlock = some y → x ≠ y := by
 intro x y hx hy e
 rcases h1.2 with ⟨rfl,-⟩ | ⟨g1,cap1,cur1,rfl,-,hg1,-⟩
 ·cases hx
 ·rcases h2.2 with ⟨rfl,-⟩ | ⟨g2,cap2,cur2,rfl,-,hg2,-⟩
  ·cases hy
  ·have e1' : g1 = x := by simpa [Value.ownBlock] using hx
   have e2' : g2 = y := by simpa [Value.ownBlock] using hy
   rw [e1',e,← e2',hg2] at hg1
   simp at hg1
   exact he hg1.2.symm
theorem own_blkne {w : World} {b size n Q : Nat} {e T : TypeId} {v : Value} {xs : List Value} {cs : Array Value} (own : w.ownsRow b e size v n xs) (hb : Blk w Q cs T) (he : e ≠ T) : ∀ x,v.ownBlock = some x → x ≠ Q := by
 intro x hx e'
 rcases own.2 with ⟨rfl,-⟩ | ⟨g,cap,cur,rfl,-,hg,-⟩
 ·cases hx
 ·have hgQ : g = x := by simpa [Value.ownBlock] using hx
  have h : w.heap[Q]? = some (.cells cs T (0,0)) := hb
  rw [hgQ,e',h] at hg
  simp at hg
  exact he hg.2.symm

theorem Tryz.infoInts : (Tryz.prog.info? 25).map (fun i => (i.zero,i.size,i.bytes)) = some (some (.slice none 0 0),1,24) := by kernel_rfl
theorem own_newsV {w : World} {b : Nat} {v : Value} {T : TypeId} (h : Blk w b #[v] T) : ∀ (j : Nat) (u : Value),[v][j]? = some u → w.cell? (Addr.add ⟨b,0,none⟩ j) = some u := fun j u hj => by
 cases j with
 | zero =>
  obtain rfl : v = u := by simpa using hj
  exact h.cell 0
 | succ j => simp at hj
theorem wpList_app1W {P : Program} {w : World} {ops : Array Oper} {rest : List Oper} {o : Oper} {a : Act} {Q : Exit → Act → World → Prop} (hg : o.guard = none) (s x : Operand) (t : TypeId)
  (ho : o.op = .call { callee := .builtin .append,args := #[s,x],argTypes := #[t,t] })
  (base : Nat) (e : TypeId) (i : TypeInfo) (z : Value) (bytes : Nat) (ht : P.underlying t = some (.slice e)) (hi : P.info? e = some i) (hz : i.zero = some z) (hsize : i.size = 1) (hby : i.bytes = bytes) (hzs : z.cells.size = 1)
  (v : Value) (n : Nat) (L : List Value) (y : Value) (hy : y.oneCell' = true) (B : Nat) (hs : a.eval s = v) (hx : a.eval x = .slice (some ⟨B,0,none⟩) 1 1) (hB : w.heap.size = B)
  (hown : w.ownsRow base e 1 v n L) (h63 : n + 1 ≤ maxLen) (hbytes : (n + 1) * bytes ≤ 140737488355328) (hbase : base ≤ w.heap.size)
  (h : ∀ a' c' w',w'.ownsRow base e 1 (.slice a' (n + 1) c') (n + 1) (L ++ [y]) → Keeps w w' (match v.ownBlock with | some g => [g] | none => []) → wpList P ops Q rest (a.put o.dst (.slice a' (n + 1) c')) w') :
  wpList P ops Q (o :: rest) a (w.alloc (.cells #[y] e)) := by
 subst hB
 refine wpList_append_own _ hg s x t ho base _ i z 1 bytes ht hi hz hsize hby hzs (by decide) v n L hs (own_keeps hown ((Keeps.refl w []).alloc _)) _ 1 1 [y] hx rfl (own_newsV (Blk.new w _ _)) (by simpa using hy) h63 (by omega) (by simp;omega) ?_
 intro v3 w3 h3 g3 _
 obtain ⟨a3,c3,rfl⟩ := own_form h3
 exact h a3 c3 w3 h3 (((Keeps.refl w _).alloc _).trans (Keeps.of_grown g3 (fun k hk => by rw [hk];simp)) (fun j hj _ => hj))

structure CodS (w : World) (C g : Nat) (norm : List Int) (top : Nat) : Prop where
 form : ∃ (ca : Option Addr) (cc pb pc : Nat) (vs : List Value),Blk w C #[.slice ca (2 ^ g) cc,.slice (some ⟨pb,0,none⟩) norm.length pc] 263 ∧ RdW rowC 3 w (.slice ca (2 ^ g) cc) (cellsL g norm (2 ^ g)) ∧ (∀ ad,ca = some ad → ad.block < top) ∧ pb < top ∧ norm.length ≤ pc ∧
  (∀ s v,vs[s]? = some v → w.cell? ⟨pb,s,none⟩ = some v) ∧ ∀ s,s < norm.length → ∃ a n c,vs[s]? = some (.slice a n c) ∧ n = (placesOf g norm s).length ∧ RdI .i64 w (.slice a n c) (castL (placesOf g norm s)) ∧ ∀ ad,a = some ad → ad.block < top
 lt : C < top
 top : top ≤ w.heap.size
theorem CodS.keeps {w w' : World} {C g top : Nat} {norm : List Int} {S : List Nat} (h : CodS w C g norm top) (k : Keeps w w' S) (hS : ∀ x ∈ S,top ≤ x) : CodS w' C g norm top := by
 obtain ⟨ca,cc,pb,pc,vs,h1,h2,h3,h4,h5,h6,h7⟩ := h.form
 have hl := h.lt
 have ht := h.top
 refine ⟨⟨ca,cc,pb,pc,vs,h1.keeps k (fun hm => by have := hS _ hm;omega),h2.keeps k (fun ad nn cp he _ hm => by cases he;have := h3 _ rfl;have := hS _ hm;omega),h3,h4,h5,fun s v hv => (k.cell (p := ⟨pb,s,none⟩) (by simp only;omega) (fun hm => by have := hS _ hm;simp only at this;omega)).trans (h6 s v hv),fun s hs => ?_⟩,hl,Nat.le_trans ht k.size⟩
 obtain ⟨a,n,c,g1,g2,g3,g4⟩ := h7 s hs
 exact ⟨a,n,c,g1,g2,g3.keepsS k (fun ad n' c' he _ hm => by cases he;have := g4 _ rfl;have := hS _ hm;omega),g4⟩

def SubR (w : World) (g : Nat) (norm : List Int) (vs : List Value) (i : Nat) : Prop := ∀ s,s < i → ∃ a n c,vs[s]? = some (.slice a n c) ∧ n = (placesOf g norm s).length ∧ w.ownsRow 0 3 1 (.slice a n c) n ((castL (placesOf g norm s)).map (.int .i64))
theorem SubR.keeps {w w' : World} {g i : Nat} {norm : List Int} {vs : List Value} {S : List Nat} (h : SubR w g norm vs i) (k : Keeps w w' S) (hS : ∀ x ∈ S,∀ a n c xs,w.ownsRow 0 3 1 (.slice a n c) n xs → (Value.slice a n c).ownBlock ≠ some x) : SubR w' g norm vs i := fun s hs => by
 obtain ⟨a,n,c,h1,h2,h3⟩ := h s hs
 exact ⟨a,n,c,h1,h2,own_old h3 k (fun x hx hm => hS x hm a n c _ h3 hx)⟩

set_option maxHeartbeats 4000000 in
theorem snew_ok (g : Nat) (v : Value) (norm : List Int) (w : World) (hv : RdI .i64 w v norm) (hb : ∀ x ∈ norm,-9223372036854775808 ≤ x ∧ x ≤ 9223372036854775807) (hok : TblOk g norm) (hok' : okN (g : Int) norm 256 9 = true) :
  Calls Tryz.prog 203 #[.agg #[.int .i64 (g : Int),v]] w fun e w' => ∃ C,e = .returned (.tuple #[.pointer (some ⟨C,0,none⟩),.int .i64 0]) ∧ w.heap.size ≤ C ∧ CodS w' C g norm w'.heap.size ∧ Keeps w w' [] := by
 obtain ⟨i0,hi,hz0,hz1,hz2⟩ := info_parts Tryz.infoInts
 obtain ⟨A0,m,cp0,rfl,hnl,-⟩ := hv.form
 have k0 := (Keeps.refl w []).alloc (.cells #[.int .i64 (g : Int),.slice A0 m cp0] 27)
 have b0 := Blk.new w #[.int .i64 (g : Int),.slice A0 m cp0] 27
 have HC := Lib.hid (build_ok g _ norm _ (hv.keeps k0) hb hok hok')
 have HPO := Lib.hid (fun s W (k : Keeps w W []) => positions_ok g s _ norm W (hv.keeps k) hb hok hok')
 have hm256 : m ≤ 256 := by have := hok.len;omega
 have hpos := hok.pos
 have HNL := Lib.hid hnl
 have c0 := b0.cell 0
 have c1 := b0.cell 1
 simp at c0 c1
 obtain ⟨S,hSe⟩ : ∃ S,2 ^ g = S := ⟨_,rfl⟩
 rw [hSe] at HC
 have HSE := Lib.hid hSe
 clear hv hnl hok' hb hok hSe
 go_enter Tryz.func203,Tryz.ntmps203
 go_wp2_with (go_at_call 187;(refine HC.out.mono ?_;rintro e w1 ⟨ca,cc,rfl,own1,k1⟩;have b1 := b0.keeps k1 (by simp);have kk1 := k0.then k1;have hw1 := b1.lt;have OW1 := Lib.hid own1;have bC := Blk.new w1 #[.slice ca S cc,.slice none 0 0] 263;have b2 := b1.alloc (.cells #[.slice ca S cc,.slice none 0 0] 263);have kk2 := kk1.alloc (.cells #[.slice ca S cc,.slice none 0 0] 263);clear c0 c1 own1;have c0 := b2.cell 0;have c1 := b2.cell 1;simp at c0 c1))
 have hlS : (cellsL g norm S).length = S := cellsL_len g norm S
 have rc : RdW rowC 3 w1 (.slice ca S cc) (cellsL g norm S) := ownW_reads rowC_len (by rw [hlS];exact OW1.out)
 have HCB : Hid (∀ ad,ca = some ad → ad.block < w1.heap.size) := fun ad he => by subst he;exact (OW1.out.lt ad.block rfl).2
 have rc2 := rc.keep ((Keeps.refl w1 []).alloc (.cells #[.slice ca S cc,.slice none 0 0] 263))
 obtain ⟨C,hC⟩ : ∃ C,w1.heap.size = C := ⟨_,rfl⟩
 have hsz : C + 1 = (w1.alloc (.cells #[.slice ca S cc,.slice none 0 0] 263)).heap.size := by simp [hC]
 rw [hC] at bC HCB hw1 ⊢
 generalize (w1.alloc (.cells #[.slice ca S cc,.slice none 0 0] 263)) = W0 at *
 have HR0 := Lib.hid (show _ ∧ _ ∧ _ ∧ _ from ⟨bC,b2,kk2,rc2⟩)
 have hwC : w.heap.size ≤ C := by omega
 clear b0 b1 k0 k1 kk1 OW1 rc rc2 hlS bC b2 kk2 c0 c1 HC hC
 go_loopw [24] (fun s24 wr => ∃ (i pc : Nat) (pa : Option Addr) (vs : List Value),s24 = .int .i64 (i : Int) ∧ i ≤ m ∧ vs.length = i ∧ Blk wr C #[.slice ca S cc,.slice pa i pc] 263 ∧ wr.ownsRow (C + 1) 25 1 (.slice pa i pc) i vs ∧ SubR wr g norm vs i ∧ Blk wr w.heap.size #[.int .i64 (g : Int),.slice A0 m cp0] 27 ∧ Keeps w wr [] ∧ RdW rowC 3 wr (.slice ca S cc) (cellsL g norm S) ∧ C + 1 ≤ wr.heap.size) (fun s24 _ => m - (intOf s24).toNat)
 case atStart =>
  obtain ⟨x1,x2,x3,x4⟩ := HR0.out
  exact ⟨0,0,none,[],rfl,Nat.zero_le _,rfl,x1,World.ownsRow_nil _ _ _ _,fun s hs => by omega,x2,x3,x4,by omega⟩
 case round =>
  clear HR0 hsz
  obtain ⟨i,pc,pa,vs,rfl,him,hvl,bC,own,sub,bT,kk,rc,hsz⟩ := hrel
  by_cases hlt : i < m
  ·have hiI : (i : Int) < (m : Int) := by omega
   have HCALL := Lib.hid (HPO.out i wr kk)
   have c0 := bT.cell 0
   have c1 := bT.cell 1
   simp at c0 c1
   have BC := Lib.hid bC
   have OW := Lib.hid own
   have SB := Lib.hid sub
   have HX := Lib.hid (show _ ∧ _ ∧ _ ∧ _ from ⟨bT,kk,rc,hvl⟩)
   have Y8 := Lib.hid (young own)
   clear bC own sub bT kk rc hvl
   go_wp2_with (first
    | (go_at_call 216;(refine HCALL.out.mono ?_;rintro e w3 ⟨a,n,c,rfl,hn,own3,k3⟩;have OW3 := Lib.hid own3;have HN := Lib.hid hn;have K3 := Lib.hid k3;have bC3 := BC.out.keeps k3 (by simp);have d1 := bC3.cell 1;have f1 := bC3.frozen 1;simp at d1;have hbl3 := bC3.lt;have hs3 := k3.size;have OWP3 := Lib.hid (own_keeps OW.out k3);have SB3 := Lib.hid (SB.out.keeps k3 (fun x hx => by cases hx));have BC3 := Lib.hid bC3;clear own3 hn k3 bC3))
    | (at_builtin;(refine wpList_app1W (w := w3) rfl _ _ 261 rfl (C + 1) 25 i0 (.slice none 0 0) 24 Tryz.underlying261 hi hz0 hz1 hz2 rfl (.slice pa i pc) i vs (.slice a n c) rfl _ rfl rfl rfl OWP3.out (by unfold maxLen;omega) (by omega) (by omega) ?_;intro a6 c6 w6 own6 k6;have NC : C ∉ (match (Value.slice pa i pc).ownBlock with | some g => [g] | none => []) := (fun hm => by have := Y8.out _ hm;omega);have bC6 := BC3.out.keeps k6 NC;have f1 := bC6.frozen 1;have d1 := bC6.cell 1;simp at d1;have hbl6 := bC6.lt;have BC6 := Lib.hid bC6;have OW6 := Lib.hid own6;have K6 := Lib.hid k6;have hs6 := k6.size;clear own6 k6 bC6 NC)))
   have kset : Keeps w6 (w6.setCell ⟨C,1,none⟩ (.slice a6 (i + 1) c6)) [C] := (Keeps.refl w6 _).setCell (.inr (by simp)) _
   have b7 : Blk (w6.setCell ⟨C,1,none⟩ (.slice a6 (i + 1) c6)) C #[.slice ca S cc,.slice a6 (i + 1) c6] 263 := by
    have := BC6.out.set 1 (.slice a6 (i + 1) c6)
    simpa using this
   have hsub6 : SubR w6 g norm vs i := SB3.out.keeps K6.out (fun x hx a' n' c' xs ho he => by
    cases hob : (Value.slice pa i pc).ownBlock with
    | none => rw [hob] at hx;cases hx
    | some y =>
     rw [hob] at hx
     have := List.mem_singleton.1 hx
     exact own_diff ho OWP3.out (by decide) x y he hob this)
   have hown6 : w6.ownsRow 0 3 1 (.slice a n c) n ((castL (placesOf g norm i)).map (.int .i64)) := own_old (own_base OW3.out (Nat.zero_le _)) K6.out (fun x hx hm => by
    cases hob : (Value.slice pa i pc).ownBlock with
    | none => rw [hob] at hm;cases hm
    | some y =>
     rw [hob] at hm
     exact own_diff OW3.out OWP3.out (by decide) x y hx hob (List.mem_singleton.1 hm))
   have hsub7 : SubR (w6.setCell ⟨C,1,none⟩ (.slice a6 (i + 1) c6)) g norm (vs ++ [.slice a n c]) (i + 1) := by
    obtain ⟨-,-,-,hvl⟩ := HX.out
    intro s hs
    by_cases hsi : s < i
    ·obtain ⟨a',n',c',g1,g2,g3⟩ := hsub6 s hsi
     exact ⟨a',n',c',by rw [List.getElem?_append_left (by omega)];exact g1,g2,own_old g3 kset (fun x hx hm => own_blkne g3 BC6.out (by decide) x hx (List.mem_singleton.1 hm))⟩
    ·obtain rfl : s = i := by omega
     exact ⟨a,n,c,by rw [List.getElem?_append_right (by omega),hvl,Nat.sub_self];rfl,HN.out,own_old hown6 kset (fun x hx hm => own_blkne hown6 BC6.out (by decide) x hx (List.mem_singleton.1 hm))⟩
   have HKY : Hid (∀ x,x < C + 1 → x ∉ (match (Value.slice pa i pc).ownBlock with | some g => [g] | none => [])) := fun x hx hm => by have := Y8.out x hm;omega
   go_roundw
   case rel =>
    obtain ⟨bT,kk,rc,hvl⟩ := HX.out
    refine ⟨i + 1,c6,a6,vs ++ [.slice a n c],by go_num,by omega,by rw [List.length_append,List.length_singleton,hvl],b7,own_old OW6.out kset (fun x hx hm => by have := List.mem_singleton.1 hm;have := (OW6.out.lt x hx).1;omega),hsub7,((bT.keeps K3.out (by simp)).keeps K6.out (HKY.out _ (by omega))).keeps kset (by simp;omega),((kk.then K3.out).trans K6.out (fun j hj hl => by have := Y8.out j hj;omega)).trans kset (fun j hj hl => by have := List.mem_singleton.1 hj;omega),?_,by have := kset.size;omega⟩
    exact ((rc.keep K3.out).keeps K6.out (fun ad nn cp he _ hm => by cases he;have := HCB.out _ rfl;exact HKY.out _ (by (try simp only);omega) hm)).keeps kset (fun ad nn cp he _ hm => by cases he;have := HCB.out _ rfl;have := List.mem_singleton.1 hm;(try simp only at this);omega)
   case measure => simp [intOf];omega
  ·obtain rfl : i = m := by omega
   have hii : decide ((i : Int) < (i : Int)) = false := by simp
   have HF : Hid (CodS wr C g norm wr.heap.size) := Lib.hid (by
    obtain ⟨pb,hpa,hpbC,hpbl⟩ : ∃ pb,pa = some ⟨pb,0,none⟩ ∧ C + 1 ≤ pb ∧ pb < wr.heap.size := by
     rcases own.2 with ⟨h1,h2⟩ | ⟨gg,cp,cur,h1,h2,-⟩
     ·have := HNL.out;omega
     ·cases h1
      exact ⟨gg,rfl,h2,(own.lt gg rfl).2⟩
    subst hpa
    have hn := HNL.out
    have hS := HSE.out
    subst hn
    refine ⟨⟨ca,cc,pb,pc,vs,by rw [hS];exact bC,by rw [hS];exact rc,fun ad he => by have := HCB.out ad he;omega,hpbl,?_,fun s v hv => ?_,fun s hs => ?_⟩,by omega,Nat.le_refl _⟩
    ·rcases own.2 with ⟨h1,h2⟩ | ⟨gg,cp,cur,h1,h2,h3,h4,-⟩
     ·omega
     ·cases h1;exact h4
    ·have hsl : s < vs.length := (List.getElem?_eq_some_iff.1 hv).1
     rw [own.cellAt s (by omega),hv]
    ·obtain ⟨a,n,c,g1,g2,g3⟩ := sub s hs
     refine ⟨a,n,c,g1,g2,?_,fun ad he => by subst he;exact (g3.lt ad.block rfl).2⟩
     have hl : (castL (placesOf g norm s)).length = n := by rw [castL_len];exact g2.symm
     rw [← hl] at g3 ⊢
     exact own_reads g3)
   have KK := Lib.hid kk
   clear bC own sub bT kk rc hvl
   go_wp2_with fail
   go_ret2
   exact ⟨C,rfl,hwC,HF.out,KK.out⟩
end

section
open Go.RowKit

theorem cnone_any (C g top : Nat) (norm : List Int) (w : World) (h : CodS w C g norm top) (hg : g ≤ 9) :
  Calls Tryz.prog 218 #[.pointer (some ⟨C,0,none⟩)] w fun e w' => e = .returned (.bool false) ∧ w' = w := by
 obtain ⟨ca,cc,pb,pc,vs,h1,-⟩ := h.form
 have hS : 1 ≤ 2 ^ g := Nat.one_le_two_pow
 obtain ⟨S,hSe⟩ : ∃ S,2 ^ g = S := ⟨_,rfl⟩
 rw [hSe] at h1 hS
 have hS0 : ((S : Int) == 0) = false := by simp;omega
 have hS0n : (S == 0) = false := by simp;omega
 have c0 := h1.cell 0
 simp at c0
 clear h h1 hSe
 go_enter Tryz.func218,Tryz.ntmps218
 go_wp2_with fail
 go_ret
 exact ⟨rfl,rfl⟩

theorem CodS.sym {w : World} {C g top s : Nat} {norm : List Int} (h : CodS w C g norm top) (hs : s < norm.length) : ∃ (ca : Option Addr) (cc pb pc : Nat) (a : Option Addr) (n c : Nat),Blk w C #[.slice ca (2 ^ g) cc,.slice (some ⟨pb,0,none⟩) norm.length pc] 263 ∧ norm.length ≤ pc ∧ w.cell? ⟨pb,s,none⟩ = some (.slice a n c) ∧ n = (placesOf g norm s).length ∧ RdI .i64 w (.slice a n c) (castL (placesOf g norm s)) ∧ ∀ ad,a = some ad → ad.block < top := by
 obtain ⟨ca,cc,pb,pc,vs,h1,h2,h3,h4,h5,h6,h7⟩ := h.form
 obtain ⟨a,n,c,g1,g2,g3,g4⟩ := h7 s hs
 exact ⟨ca,cc,pb,pc,a,n,c,h1,h5,h6 s _ g1,g2,g3,g4⟩
def PlV (w : World) (g : Nat) (norm : List Int) (s top : Nat) (v : Value) : Prop := ∃ a n c,v = .slice a n c ∧ n = (placesOf g norm s).length ∧ RdI .i64 w v (castL (placesOf g norm s)) ∧ ∀ ad,a = some ad → ad.block < top

set_option maxHeartbeats 2000000 in
theorem cof_any (C g top s : Nat) (norm : List Int) (w : World) (h : CodS w C g norm top) (hs : s < norm.length) (hl : norm.length ≤ 256) (hp : 1 ≤ (placesOf g norm s).length) :
  Calls Tryz.prog 219 #[.pointer (some ⟨C,0,none⟩),.int .i64 (s : Int)] w fun e w' => ∃ v,e = .returned (.tuple #[v,.int .i64 0]) ∧ PlV w g norm s top v ∧ w' = w := by
 obtain ⟨ca,cc,pb,pc,a,n,c,h1,h2,h3,h4,h5,h6⟩ := h.sym hs
 have c1 := h1.cell 1
 simp at c1
 have HF := Lib.hid (show PlV w g norm s top (.slice a n c) from ⟨a,n,c,rfl,h4,h5,h6⟩)
 rw [← h4] at hp
 have hn0 : ((n : Int) == 0) = false := by simp;omega
 have hn0n : (n == 0) = false := by simp;omega
 obtain ⟨m,hm⟩ : ∃ m,norm.length = m := ⟨_,rfl⟩
 rw [hm] at c1 h2 hs
 have hsm : (s : Int) < (m : Int) := by omega
 have hsm2 : decide ((m : Int) ≤ (s : Int)) = false := decide_eq_false (by omega)
 have hsm3 : decide (m ≤ s) = false := decide_eq_false (by omega)
 clear h h1 h4 h5 h6 hm hp
 go_enter Tryz.func219,Tryz.ntmps219
 go_wp2_with fail
 go_ret2
 exact ⟨_,rfl,HF.out,rfl⟩

theorem cstate_any (C g top z : Nat) (norm : List Int) (w : World) (h : CodS w C g norm top) (hg : g ≤ 9) (hz : z < 2 ^ g) :
  Calls Tryz.prog 220 #[.pointer (some ⟨C,0,none⟩),.int .i64 (z : Int)] w fun e w' => e = .returned (.int .i64 0) ∧ w' = w := by
 have HN := Lib.hid (cnone_any C g top norm w h hg)
 obtain ⟨ca,cc,pb,pc,vs,h1,-⟩ := h.form
 obtain ⟨S,hSe⟩ : ∃ S,2 ^ g = S := ⟨_,rfl⟩
 rw [hSe] at h1 hz
 have c0 := h1.cell 0
 simp at c0
 have hz1 : decide ((S : Int) ≤ (z : Int)) = false := decide_eq_false (by omega)
 have hz2 : decide (S ≤ z) = false := decide_eq_false (by omega)
 clear h h1 hSe
 go_enter Tryz.func220,Tryz.ntmps220
 go_wp2_with (go_at_call 218;(refine HN.out.mono ?_;rintro e w1 ⟨rfl,rfl⟩))
 go_ret
 exact ⟨rfl,rfl⟩

theorem clog_any (C g top : Nat) (norm : List Int) (w : World) (h : CodS w C g norm top) (hg : g ≤ 9) :
  Calls Tryz.prog 207 #[.pointer (some ⟨C,0,none⟩)] w fun e w' => e = .returned (.int .i64 (g : Int)) ∧ w' = w := by
 have HN := Lib.hid (cnone_any C g top norm w h hg)
 obtain ⟨ca,cc,pb,pc,vs,h1,-⟩ := h.form
 have h9 : 2 ^ g ≤ 2 ^ 9 := Nat.pow_le_pow_right (by decide) hg
 rw [show (2 : Nat) ^ 9 = 512 by decide] at h9
 have hp : 1 ≤ 2 ^ g := Nat.one_le_two_pow
 have HL := Lib.hid (Tryz.bits_Len (((2 ^ g : Nat)) : Int) w (by omega) (by omega))
 simp only [Int.toNat_natCast] at HL
 rw [bitLen_log (by omega) (by omega),Nat.log2_two_pow] at HL
 obtain ⟨S,hSe⟩ : ∃ S,2 ^ g = S := ⟨_,rfl⟩
 rw [hSe] at h1 HL h9
 have c0 := h1.cell 0
 simp at c0
 obtain ⟨G1,hG1⟩ : ∃ D : Int,((g + 1 : Nat) : Int) = D := ⟨_,rfl⟩
 rw [hG1] at HL
 have hG2 : G1 - 1 = (g : Int) := by omega
 obtain ⟨G,hG⟩ : ∃ D : Int,(g : Int) = D := ⟨_,rfl⟩
 rw [hG] at hG2 ⊢
 have hwG : wrap64 G = G := IntWalk.wrap64_in _ ⟨by omega,by omega⟩
 have hwS : (S : Int) % 18446744073709551616 = (S : Int) := by omega
 clear h h1 hSe hp hG1 hG
 go_enter Tryz.func207,Tryz.ntmps207
 go_wp2_with (first
  | (go_at_call 218;(refine HN.out.mono ?_;rintro e w1 ⟨rfl,rfl⟩))
  | (go_at_call 163;(refine HL.out.mono ?_;rintro e w1 ⟨rfl,rfl⟩)))
 go_ret
 refine ⟨?_,rfl⟩
 show Ending.returned (.int .i64 (wrap64 G)) = _
 rw [hwG]

theorem clowest_any (C g top s : Nat) (norm : List Int) (w : World) (h : CodS w C g norm top) (hg : g ≤ 9) (hs : s < norm.length) (hl : norm.length ≤ 256) (hp : 1 ≤ (placesOf g norm s).length) :
  Calls Tryz.prog 205 #[.pointer (some ⟨C,0,none⟩),.int .i64 (s : Int)] w fun e w' => e = .returned (.tuple #[.int .i64 (lowN g norm s : Nat),.int .i64 0]) ∧ w' = w := by
 have HN := Lib.hid (cnone_any C g top norm w h hg)
 have HO := Lib.hid (cof_any C g top s norm w h hs hl hp)
 have HLW : Hid ((castL (placesOf g norm s))[0]? = some ((lowN g norm s : Nat) : Int)) := Lib.hid (by
  unfold lowN castL
  rw [List.getElem?_map,List.getD_eq_getElem?_getD,List.getElem?_eq_getElem (by omega)]
  rfl)
 obtain ⟨LW,hLW⟩ : ∃ L,lowN g norm s = L := ⟨_,rfl⟩
 rw [hLW] at HLW ⊢
 clear h hs hLW
 go_enter Tryz.func205,Tryz.ntmps205
 go_wp2_with (first
  | (go_at_call 218;(refine HN.out.mono ?_;rintro e w1 ⟨rfl,rfl⟩))
  | (go_at_call 219;(refine HO.out.mono ?_;rintro e w1 ⟨v,rfl,⟨a,n,c,rfl,hn,rd,-⟩,rfl⟩;obtain ⟨b,o,rfl,hbb,hc⟩ := rd.at HLW.out;rw [Nat.add_zero] at hc;have hcap := rd.cap;have hn1 : 0 < n := (by omega);have hn1I : (0 : Int) < (n : Int) := (by omega);clear rd hn)))
 go_ret2
 exact ⟨rfl,rfl⟩

theorem nFind_min {x m : Nat} : ∀ (f n j : Nat),n ≤ j → j < nFind f x m n → 2 * m ≤ x / 2 ^ j
 | 0,n,j,h1,h2 => by unfold nFind at h2;omega
 | f + 1,n,j,h1,h2 => by
  unfold nFind at h2
  split at h2
  ·rename_i h
   by_cases hj : j = n
   ·subst hj;exact h
   ·exact nFind_min f (n + 1) j (by omega) h2
  ·omega
theorem and_all : ∀ b : Fin 10,∀ x : Fin 1024,bits BinOp.and IntKind.i64 ((x.val : Nat) : Int) (((2 ^ b.val : Nat) : Int) - 1) = ((x.val % 2 ^ b.val : Nat) : Int) := by decide +kernel
theorem load_step {w : World} {b : Nat} {x y z : Value} (h : Blk w b #[x,y,z] 250) : (loadVar 250 ⟨b,0,none⟩).run Tryz.prog w = .ok (.agg #[x,y,z]) w :=
 load_blk h Tryz.underlying250 rfl (by kernel_rfl)
theorem Tryz.step_size : (Tryz.prog.info? 250).map (·.size) = some 3 := by kernel_rfl

set_option maxHeartbeats 4000000 in
theorem cpred_any (C g top z s : Nat) (norm : List Int) (w : World) (h : CodS w C g norm top) (hok : TblOk g norm) (hz : z < 2 ^ g) (hs : s < norm.length) (h0 : norm.getD s 0 ≠ 0) :
  Calls Tryz.prog 206 #[.pointer (some ⟨C,0,none⟩),.int .i64 (z : Int),.int .i64 (s : Int)] w fun e w' =>
   e = .returned (.tuple #[.agg #[.int .i64 (predS g norm z s : Nat),.int .u64 (predV g norm z s : Nat),.int .i64 (predB g norm z s : Nat)],.int .i64 0]) ∧ Keeps w w' [] := by
 obtain ⟨p1,p2,p3,p4⟩ := predB_ok hok hs h0 hz
 have hg := hok.g9
 have k0 := (Keeps.refl w []).alloc (.cells #[.int .i64 0,.int .u64 0,.int .i64 0] 250)
 have b0 := Blk.new w #[.int .i64 0,.int .u64 0,.int .i64 0] 250
 have h' := h.keeps k0 (fun x hx => by cases hx)
 have HST := Lib.hid (cstate_any C g top z norm _ h' hg hz)
 have HO := Lib.hid (cof_any C g top s norm _ h' hs hok.len p1)
 have h9 : 2 ^ g ≤ 2 ^ 9 := Nat.pow_le_pow_right (by decide) hg
 rw [show (2 : Nat) ^ 9 = 512 by decide] at h9
 have hmin : ∀ j,j < predB g norm z s → 2 * (placesOf g norm s).length ≤ (z + 2 ^ g) / 2 ^ j := fun j hj => nFind_min 10 0 j (Nat.zero_le _) hj
 obtain ⟨N,hN⟩ : ∃ N,predB g norm z s = N := ⟨_,rfl⟩
 obtain ⟨M,hM⟩ : ∃ M,(placesOf g norm s).length = M := ⟨_,rfl⟩
 have hPS : predS g norm z s = (placesOf g norm s).getD ((z + 2 ^ g) / 2 ^ N - M) 0 := by rw [← hN,← hM];rfl
 have hPV : predV g norm z s = (z + 2 ^ g) % 2 ^ N := by rw [← hN];rfl
 rw [hN,hM] at p2 p3
 rw [hN,hM] at hmin
 rw [hN] at p4 ⊢
 rw [hM] at p1
 obtain ⟨ca,cc,pb,pc,vs,hC1,-⟩ := h'.form
 obtain ⟨S,hSe⟩ : ∃ S,2 ^ g = S := ⟨_,rfl⟩
 rw [hSe] at hz h9 hPS hPV p2 p3 hmin hC1
 obtain ⟨X,hX⟩ : ∃ X,z + S = X := ⟨_,rfl⟩
 rw [hX] at hPS hPV p2 p3 hmin
 have hX1 : X < 1024 := by omega
 have hand := and_all ⟨N,by omega⟩ ⟨X,hX1⟩
 simp only at hand
 obtain ⟨Y,hY⟩ : ∃ Y,X / 2 ^ N = Y := ⟨_,rfl⟩
 rw [hY] at p2 p3 hPS
 obtain ⟨V,hV⟩ : ∃ V,X % 2 ^ N = V := ⟨_,rfl⟩
 rw [hV] at hPV hand
 have hV1 : V ≤ X := by rw [← hV];exact Nat.mod_le _ _
 have HPL : Hid ((castL (placesOf g norm s))[Y - M]? = some ((predS g norm z s : Nat) : Int)) := Lib.hid (by
  unfold castL
  rw [hPS,List.getElem?_map,List.getD_eq_getElem?_getD,List.getElem?_eq_getElem (by omega)]
  rfl)
 obtain ⟨PS,hPSe⟩ : ∃ P,predS g norm z s = P := ⟨_,rfl⟩
 rw [hPSe] at HPL ⊢
 rw [hPV]
 have HM := Lib.hid hM
 have c0 := hC1.cell 0
 simp at c0
 have hxI : (z : Int) + (S : Int) = (X : Int) := by omega
 have hb0l := b0.lt
 have B0 := Lib.hid b0
 have K0 := Lib.hid k0
 have htop : top ≤ w.heap.size := h.top
 have HMIN := Lib.hid hmin
 have HYE : Hid (∀ k : Nat,((X : Int) / 2 ^ k) = ((X / 2 ^ k : Nat) : Int)) := Lib.hid (fun k => by simp)
 have HY := Lib.hid hY
 have hYX : Y ≤ X := by rw [← HY.out];exact Nat.div_le_self _ _
 have hM5 : M ≤ 1024 := by omega
 have hN9 : N ≤ 9 := by omega
 clear h h' hok hz hs h0 k0 b0 h9 hN hM hPS hPV hSe hX hC1 hPSe hmin hY hV
 go_enter Tryz.func206,Tryz.ntmps206
 go_wp2_with (first
  | (go_at_call 220;(refine HST.out.mono ?_;rintro e w1 ⟨rfl,rfl⟩))
  | (go_at_call 219;(refine HO.out.mono ?_;rintro e w1 ⟨v,rfl,⟨a,n,c,rfl,hn,rd,hat⟩,rfl⟩;obtain rfl : n = M := (hn.trans HM.out);have RD := Lib.hid rd;have HAT := Lib.hid hat;clear rd hn hat)))
 obtain ⟨J,hJ⟩ : ∃ J,Y - n = J := ⟨_,rfl⟩
 have HJ : Hid ((castL (placesOf g norm s))[J]? = some (PS : Int)) := Lib.hid (by rw [← hJ];exact HPL.out)
 have HPL2 := Lib.hid (RD.out.at HJ.out)
 obtain ⟨bb,o,rfl,hbb,hcJ⟩ := HPL2.out
 have hbt := HAT.out _ rfl
 simp only at hbt
 have HLD : Hid (∀ w9,Keeps (w.alloc (.cells #[.int .i64 0,.int .u64 0,.int .i64 0] 250)) w9 [w.heap.size] → w9.cell? ⟨bb,o + J,none⟩ = some (.int .i64 (PS : Int))) := Lib.hid (fun w9 k9 => (k9.cell (p := ⟨bb,o + J,none⟩) hbb (by simp;omega)).trans hcJ)
 have hcap := RD.out.cap
 have hJn : (J : Int) < (n : Int) := by omega
 have hDJ : (Y : Int) - (n : Int) = (J : Int) := by omega
 have HSZ := Lib.hid (show (w.alloc (.cells #[.int .i64 0,.int .u64 0,.int .i64 0] 250)).heap.size = w.heap.size + 1 by simp)
 clear HPL2 hcJ hJ HPL c0
 generalize (w.alloc (.cells #[.int .i64 0,.int .u64 0,.int .i64 0] 250)) = W0 at *
 obtain ⟨M2,hM2⟩ : ∃ D : Int,2 * (n : Int) = D := ⟨_,rfl⟩
 have hwM2 : wrap64 M2 = M2 := IntWalk.wrap64_in _ ⟨by omega,by omega⟩
 go_loopw [12] (fun s12 wr => wr = W0 ∧ ∃ k : Nat,k ≤ N ∧ s12 = .int .i64 (k : Int)) (fun s12 _ => N - (intOf s12).toNat)
 case atStart => exact ⟨rfl,0,Nat.zero_le _,rfl⟩
 case round =>
  obtain ⟨rfl,k,hkN,rfl⟩ := hrel
  obtain ⟨DK,hDK⟩ : ∃ D : Int,(X : Int) / 2 ^ k = D := ⟨_,rfl⟩
  have hye := HYE.out k
  rw [hDK] at hye
  by_cases hlt : k < N
  ·have hm := HMIN.out k hlt
   have hle : M2 ≤ DK := by omega
   clear hye hm
   go_wp2_with fail
   go_roundw
   case rel => exact ⟨trivial,k + 1,by omega,by go_num⟩
   case measure => simp [intOf];omega
  ·obtain rfl : k = N := by omega
   rw [HY.out] at hye
   have hle : decide (M2 ≤ DK) = false := decide_eq_false (by omega)
   clear hkN hlt
   go_wp2_with fail
   clear hle
   have hDY : DK = (Y : Int) := hye
   rw [hDY] at hDK
   clear hye hDY hwM2 hM2
   have h29 : 2 ^ k ≤ 2 ^ 9 := Nat.pow_le_pow_right (by decide) hN9
   rw [show (2 : Nat) ^ 9 = 512 by decide] at h29
   obtain ⟨q2,hq2⟩ : ∃ q,2 ^ k = q := ⟨_,rfl⟩
   have hpe : ((2 : Int) ^ k) = (q2 : Int) := by rw [← hq2];simp
   rw [hq2] at h29 hand
   obtain ⟨PW,hPW⟩ : ∃ D : Int,(q2 : Int) = D := ⟨_,rfl⟩
   rw [hPW] at hand hpe
   rw [hpe] at hDK
   have hw1 : IntKind.i64.wrap PW = PW := IntWalk.i64_in _ ⟨by omega,by omega⟩
   obtain ⟨P1,hP1⟩ : ∃ D : Int,PW - 1 = D := ⟨_,rfl⟩
   rw [hP1] at hand
   have hw2 : IntKind.i64.wrap P1 = P1 := IntWalk.i64_in _ ⟨by omega,by omega⟩
   have hw3 : IntKind.i64.wrap (J : Int) = (J : Int) := IntWalk.i64_in _ ⟨by omega,by omega⟩
   have hw4 : IntKind.u64.wrap (V : Int) = (V : Int) := by simp [IntKind.wrap,IntKind.signed,IntKind.bits];omega
   clear h29 hPW hq2
   refine wp_region_held_drew (S := (fun w' => Keeps wr w' [w.heap.size])) (by kernel_rfl) (Keeps.refl wr [w.heap.size]).drew (fun hHeld => ?_)
   refine takeM 0 rfl (by intro w9 hSw;clear hSw;go_simp;(try with_reducible rfl)) ?_
   try simp only [Act.put,stA,stZ,stS]
   refine takeM 1 rfl (by intro w9 hSw;clear hSw;go_simp;(try with_reducible rfl)) ?_
   try simp only [Act.put,stA,stZ,stS]
   refine takeM 2 rfl (by intro w9 hSw;clear hSw;go_simp;(try with_reducible rfl)) ?_
   try simp only [Act.put,stA,stZ,stS]
   refine takeM 3 rfl (by intro w9 hSw;clear hSw;go_simp;(try with_reducible rfl)) ?_
   try simp only [Act.put,stA,stZ,stS]
   refine takeM 4 rfl (by intro w9 hSw;clear hSw;go_simp;(try with_reducible rfl)) ?_
   try simp only [Act.put,stA,stZ,stS]
   refine takeM 5 rfl (by intro w9 hSw;clear hSw;go_simp;(try with_reducible rfl)) ?_
   try simp only [Act.put,stA,stZ,stS]
   refine takeM 6 rfl (by intro w9 hSw;clear hSw;go_simp;(try with_reducible rfl)) ?_
   try simp only [Act.put,stA,stZ,stS]
   refine takeM 7 rfl (by intro w9 hSw;clear hSw;go_simp;(try with_reducible rfl)) ?_
   try simp only [Act.put,stA,stZ,stS]
   refine takeM 8 rfl (by intro w9 hSw;have q6 := HLD.out w9 hSw;clear hSw;go_simp;(try with_reducible rfl)) ?_
   try simp only [Act.put,stA,stZ,stS]
   refine takeM 9 rfl (by intro w9 hSw;clear hSw;go_simp;(try with_reducible rfl)) ?_
   try simp only [Act.put,stA,stZ,stS]
   refine takeM 10 rfl (by intro w9 hSw;clear hSw;go_simp;(try with_reducible rfl)) ?_
   try simp only [Act.put,stA,stZ,stS]
   refine takeM 11 rfl (by intro w9 hSw;clear hSw;go_simp;(try with_reducible rfl)) ?_
   try simp only [Act.put,stA,stZ,stS]
   refine takeM 12 rfl (by intro w9 hSw;clear hSw;go_simp;(try with_reducible rfl)) ?_
   try simp only [Act.put,stA,stZ,stS]
   refine takeM 13 rfl (by intro w9 hSw;clear hSw;go_simp;(try with_reducible rfl)) ?_
   try simp only [Act.put,stA,stZ,stS]
   refine takeM 14 rfl (by intro w9 hSw;clear hSw;go_simp;(try with_reducible rfl)) ?_
   try simp only [Act.put,stA,stZ,stS]
   refine takeM 15 rfl (by intro w9 hSw;clear hSw;go_simp;(try with_reducible rfl)) ?_
   try simp only [Act.put,stA,stZ,stS]
   refine takeM 16 rfl (by intro w9 hSw;clear hSw;go_simp;(try with_reducible rfl)) ?_
   try simp only [Act.put,stA,stZ,stS]
   refine callL (i := 17) rfl (by kernel_rfl) (fun Kont hK => ?_)
   refine step_storeB rfl 250 _ _ rfl w.heap.size #[.int .i64 (PS : Int),.int .u64 (V : Int),.int .i64 (k : Int)] rfl rfl _ _ B0.out.drew Tryz.step_size rfl (by simp [Value.oneCell']) ?_
   intro W9 b9 k9
   refine hK.out _ _ ?_ (fun hHeld => ?_)
   ·exact ((Keeps.refl wr [w.heap.size]).drew).trans k9 (fun j hj _ => hj)
   clear hK Kont
   refine takeM 18 rfl (by intro w9 hSw;clear hSw;go_simp;(try with_reducible rfl)) ?_
   try simp only [Act.put,stA,stZ,stS]
   refine wpAnyH_done (by kernel_rfl) ?_ _
   go_wp2_with fail
   refine bodyPost_ret (v := .tuple #[.agg #[.int .i64 (PS : Int),.int .u64 (V : Int),.int .i64 (k : Int)],.int .i64 0]) (res_cell_tmp rfl rfl rfl (load_step b9)) rfl ⟨rfl,?_⟩
   exact (K0.out.drew).trans k9 (fun j hj hl => by have := List.mem_singleton.1 hj;omega)
end

end Go.Proofs.YtcmagccfagijlaaGreat
