/-
  Lists whose elements take several cells each, in memory: what a slice of them reads as; append. No program is in sight here.
  Two numbers to a byte; rows of bytes that are changed in place. No program is in sight here but for the type of a byte.
  Walk over the reference of package canon: Right.
  Bits packed into bytes, and a description of a table written, in plain words. (No walk is done here.)
  A range over a function whose iterator changes nothing and only reads the blocks X, which the rounds leave alone: the rounds may change all the rest. What the iterator promises (SeqZ), the law of the statement. No program is in sight here.
  slices.Backward over numbers: its iterator's contract.
  A region that draws its order and only reads, in the round of a range over a function: one walk of the lexical order serves every order. No program is in sight here.
  A region that draws its order and calls, in the round of a range over a function, walked as ONE line of steps (Held's). No program is in sight here.
  Walks over package canon: Check.
  An argument that is a slice of slices of numbers reads as a list of lists. No program is in sight here.
  What an argument's reading as data says of the value: arrays and structs of three numbers.
-/
import Derived.Test.YtcmagccfagijlaaGreatQ1
import Derived.Test.YtcmagccfagijlaaGreatQ2
import Derived.Deep.RegionHeld3
import Derived.Deep.RegionLaw
import Derived.Laws.OwnMore
import Derived.Test.YtcmagccfagijlaaGreatRows
import Derived.OrdersIn
import Derived.Lib.SmallJoins
import Derived.Deep.Slices
import Derived.OpenShut
namespace Go.Proofs.YtcmagccfagijlaaGreat
set_option linter.unusedVariables false
set_option linter.unusedSimpArgs false
set_option linter.unusedSectionVars false
set_option maxRecDepth 100000
section
open Go.RowKit

section
variable {α : Type} (row : α → List Value) (W : Nat)
def cellsW : List α → List Value
 | [] => []
 | x :: l => row x ++ cellsW l
structure RdW (w : World) (v : Value) (l : List α) : Prop where
 form : ∃ a n cp,v = .slice a n cp ∧ n = l.length ∧ n ≤ cp ∧ (a = none → n = 0 ∧ cp = 0) ∧ (0 < n → ∃ b o,a = some ⟨b,o,none⟩ ∧ b < w.heap.size ∧ ∀ i x,l[i]? = some x → w.rangeAt b (o + i * W) (row x))
end

section
variable {α : Type} {row : α → List Value} {W : Nat} (hW : ∀ x,(row x).length = W) (h1W : ∀ x,∀ u ∈ row x,u.oneCell' = true)
include hW
theorem cellsW_length (l : List α) : (cellsW row l).length = l.length * W := by
 induction l with
 | nil => simp [cellsW]
 | cons x l ih => simp only [cellsW,List.length_append,List.length_cons,ih,hW,Nat.succ_mul];omega
theorem cellsW_append (l m : List α) : cellsW row (l ++ m) = cellsW row l ++ cellsW row m := by
 induction l with
 | nil => simp [cellsW]
 | cons x l ih => simp [cellsW,ih]
theorem cellsW_get {l : List α} {i j : Nat} {x : α} {u : Value} (h : l[i]? = some x) (hu : (row x)[j]? = some u) : (cellsW row l)[i * W + j]? = some u := by
 induction l generalizing i with
 | nil => simp at h
 | cons y l ih =>
  have hj : j < W := by have := (List.getElem?_eq_some_iff.1 hu).1;rw [hW] at this;exact this
  cases i with
  | zero =>
   simp at h;subst h
   simp only [cellsW,Nat.zero_mul,Nat.zero_add]
   rw [List.getElem?_append_left (by rw [hW];exact hj)]
   exact hu
  | succ i =>
   simp at h
   have h2 := ih h
   simp only [cellsW]
   rw [List.getElem?_append_right (by rw [hW,Nat.succ_mul];omega),hW,show (i + 1) * W + j - W = i * W + j by rw [Nat.succ_mul];omega]
   exact h2
theorem cellsW_at (hP : 0 < W) {l : List α} {j : Nat} {u : Value} (h : (cellsW row l)[j]? = some u) : ∃ x,l[j / W]? = some x ∧ (row x)[j % W]? = some u := by
 have hl := (List.getElem?_eq_some_iff.1 h).1
 rw [cellsW_length hW] at hl
 have hd : j / W < l.length := Nat.div_lt_of_lt_mul (by rw [Nat.mul_comm];exact hl)
 obtain ⟨x,hx⟩ : ∃ x,l[j / W]? = some x := ⟨_,List.getElem?_eq_getElem hd⟩
 have hm : j % W < (row x).length := by rw [hW];exact Nat.mod_lt _ hP
 have h2 := cellsW_get hW (u := (row x)[j % W]) hx (List.getElem?_eq_getElem hm)
 rw [show j / W * W + j % W = j by rw [Nat.mul_comm];exact Nat.div_add_mod j W,h] at h2
 exact ⟨x,hx,by rw [List.getElem?_eq_getElem hm];exact h2.symm⟩
variable {w w' : World} {v : Value} {l : List α} {a : Option Addr} {n cp : Nat}
omit hW
theorem RdW.nil : RdW row W w (.slice none 0 0) [] := ⟨_,_,_,rfl,rfl,Nat.le_refl _,fun _ => ⟨rfl,rfl⟩,fun h => absurd h (by omega)⟩
theorem RdW.keeps {S : List Nat} (h : RdW row W w v l) (k : Keeps w w' S) (hn : ∀ ad n cp,v = .slice (some ad) n cp → 0 < n → ad.block ∉ S) : RdW row W w' v l := by
 obtain ⟨a,n,cp,rfl,h1,h2,h3,hc⟩ := h.form
 refine ⟨a,n,cp,rfl,h1,h2,h3,fun h0 => ?_⟩
 obtain ⟨b,o,rfl,hb,h4⟩ := hc h0
 have hnb := hn _ _ _ rfl h0
 exact ⟨b,o,rfl,Nat.lt_of_lt_of_le hb k.size,fun i x hx j u hu => (k.cell (p := ⟨b,o + i * W + j,none⟩) hb hnb).trans (h4 i x hx j u hu)⟩
theorem RdW.keep (h : RdW row W w v l) (k : Keeps w w' []) : RdW row W w' v l := h.keeps k (fun _ _ _ _ _ => by simp)
theorem RdW.len (h : RdW row W w (.slice a n cp) l) : n = l.length := by
 obtain ⟨a',n',cp',he,h1,-⟩ := h.form
 cases he;exact h1
theorem RdW.cap (h : RdW row W w (.slice a n cp) l) : n ≤ cp := by
 obtain ⟨a',n',cp',he,h1,h2,-⟩ := h.form
 cases he;exact h2
theorem RdW.at (h : RdW row W w (.slice a n cp) l) {i : Nat} {x : α} (hx : l[i]? = some x) : ∃ b o,a = some ⟨b,o,none⟩ ∧ b < w.heap.size ∧ w.rangeAt b (o + i * W) (row x) := by
 obtain ⟨a',n',cp',he,h1,h2,h3,hc⟩ := h.form
 cases he
 have hlt := (List.getElem?_eq_some_iff.1 hx).1
 obtain ⟨b,o,e,hb,h4⟩ := hc (by omega)
 exact ⟨b,o,e,hb,h4 i x hx⟩
include hW
theorem RdW.news (hP : 0 < W) {ad : Addr} (h : RdW row W w (.slice (some ad) n cp) l) : ∀ j u,(cellsW row l)[j]? = some u → w.cell? (ad.add j) = some u := by
 intro j u hj
 obtain ⟨x,hx,hu⟩ := cellsW_at hW hP hj
 obtain ⟨b,o,e,hb,h1⟩ := h.at hx
 cases e
 have e : (⟨b,o,none⟩ : Addr).add j = ⟨b,o + j,none⟩ := by simp [Addr.add]
 rw [e,show o + j = o + j / W * W + j % W by have := Nat.div_add_mod j W;rw [Nat.mul_comm] at this;omega]
 exact h1 _ u hu
theorem ownW_reads {base : Nat} {e : TypeId} (h : w.ownsRow base e W v l.length (cellsW row l)) : RdW row W w v l := by
 rcases h.2 with ⟨rfl,h0⟩ | ⟨g,cp,cur,rfl,hb,hg,hn,hm,hs,ht⟩
 ·exact ⟨_,_,_,rfl,h0.symm,Nat.le_refl _,fun _ => ⟨rfl,rfl⟩,fun h => by omega⟩
 ·refine ⟨_,_,_,rfl,rfl,hn,(fun h => by cases h),fun h0 => ⟨g,0,rfl,(Array.getElem?_eq_some_iff.1 hg).1,fun i x hx j u hu => ?_⟩⟩
  have h2 := cellsW_get hW hx hu
  have hlt := (List.getElem?_eq_some_iff.1 h2).1
  rw [cellsW_length hW] at hlt
  rw [show 0 + i * W + j = i * W + j by omega,cell_of_row w g (i * W + j) cur e (0,0) hg,← h2,← ht,List.getElem?_take,if_pos hlt]
  simp
omit hW
theorem RdW.one {b : Nat} {x : α} {cs : Array Value} {T : TypeId} (h : Blk w b cs T) (hr : ∀ (j : Nat) (u : Value),(row x)[j]? = some u → cs[j]? = some u) : RdW row W w (.slice (some ⟨b,0,none⟩) 1 1) [x] :=
 ⟨_,_,_,rfl,rfl,Nat.le_refl _,(fun h => by cases h),fun _ => ⟨b,0,rfl,h.lt,fun i z hz => by
  cases i with
  | zero =>
   simp at hz;subst hz
   intro j u hu
   rw [show 0 + 0 * W + j = j by omega]
   exact (h.cell j).trans (hr j u hu)
  | succ i => simp at hz⟩⟩
end
end

section
open Go.RowKit

def nibF : List Int → List Int
 | [] => []
 | [a] => [a]
 | a :: b :: l => (a + 16 * b) :: nibF l
theorem nib_even (l : List Int) : ∀ x : Int,l.length % 2 = 0 → nibF (l ++ [x]) = nibF l ++ [x] := by
 induction l using nibF.induct with
 | case1 => intro x _;rfl
 | case2 a => intro x h;simp at h
 | case3 a b l ih =>
  intro x h
  simp only [List.cons_append,nibF,ih x (by simp only [List.length_cons] at h;omega)]
theorem nib_two (l : List Int) : ∀ x y : Int,l.length % 2 = 0 → nibF (l ++ [x,y]) = nibF l ++ [x + 16 * y] := by
 induction l using nibF.induct with
 | case1 => intro x y _;rfl
 | case2 a => intro x y h;simp at h
 | case3 a b l ih =>
  intro x y h
  simp only [List.cons_append,nibF,ih x y (by simp only [List.length_cons] at h;omega)]
theorem nib_len (l : List Int) : (nibF l).length = (l.length + 1) / 2 := by
 induction l using nibF.induct with
 | case1 => rfl
 | case2 a => simp [nibF]
 | case3 a b l ih => simp only [nibF,List.length_cons,ih];omega
theorem nib_take1 {l : List Int} {k : Nat} {x : Int} (h : l[k]? = some x) (hk : k % 2 = 0) : nibF (l.take (k + 1)) = nibF (l.take k) ++ [x] := by
 have hlt := (List.getElem?_eq_some_iff.1 h).1
 rw [take_next h]
 exact nib_even _ _ (by simp;omega)
theorem nib_take2 {l : List Int} {k : Nat} {x y : Int} (h : l[k]? = some x) (h' : l[k + 1]? = some y) (hk : k % 2 = 0) : nibF (l.take (k + 2)) = nibF (l.take k) ++ [x + 16 * y] := by
 have hlt := (List.getElem?_eq_some_iff.1 h).1
 rw [take_next h',take_next h,List.append_assoc]
 exact nib_two _ _ _ (by simp;omega)
theorem nib_set {l : List Int} {k : Nat} {x y : Int} (hd : List Int) (h : l[k]? = some x) (h' : l[k + 1]? = some y) (hk : k % 2 = 0) :
  (hd ++ nibF (l.take (k + 1)))[(hd ++ nibF (l.take (k + 1))).length - 1]? = some x ∧ (hd ++ nibF (l.take (k + 1))).set ((hd ++ nibF (l.take (k + 1))).length - 1) (x + 16 * y) = hd ++ nibF (l.take (k + 2)) := by
 rw [nib_take1 h hk,nib_take2 h h' hk,← List.append_assoc,← List.append_assoc]
 generalize hd ++ nibF (l.take k) = A
 have e : (A ++ [x]).length - 1 = A.length := by simp
 rw [e]
 constructor
 ·simp
 ·rw [List.set_append_right _ _ (Nat.le_refl _),Nat.sub_self];rfl
def halvesL (w : List Int) : List Int := varI w.length ++ [0] ++ nibF w
theorem nib_byte {l : List Int} (h : ∀ x ∈ l,0 ≤ x ∧ x ≤ 15) : ∀ x ∈ nibF l,0 ≤ x ∧ x ≤ 255 := by
 induction l using nibF.induct with
 | case1 => intro x hx;cases hx
 | case2 a => intro x hx;have := h a (by simp);simp [nibF] at hx;omega
 | case3 a b l ih =>
  intro x hx
  have h1 := h a (by simp)
  have h2 := h b (by simp)
  rcases List.mem_cons.1 hx with rfl | hx
  ·omega
  ·exact ih (fun y hy => h y (by simp [hy])) x hx
theorem halves_byte {l : List Int} (h : ∀ x ∈ l,0 ≤ x ∧ x ≤ 15) : ∀ x ∈ halvesL l,0 ≤ x ∧ x ≤ 255 := by
 intro x hx
 rcases List.mem_append.1 hx with hx | hx
 ·rcases List.mem_append.1 hx with hx | hx
  ·exact varI_byte hx
  ·have := List.mem_singleton.1 hx;omega
 ·exact nib_byte h x hx
theorem or_nib_all : ∀ a : Fin 16,∀ b : Fin 16,bits BinOp.or IntKind.u8 ((a.val : Nat) : Int) ((b.val * 16 : Nat) : Int) = ((a.val + 16 * b.val : Nat) : Int) := by decide +kernel
theorem or_nib {x y : Int} (h1 : 0 ≤ x) (h2 : x ≤ 15) (h3 : 0 ≤ y) (h4 : y ≤ 15) : bits BinOp.or IntKind.u8 x (y * 16) = x + 16 * y := by
 obtain ⟨a,rfl⟩ := Int.eq_ofNat_of_zero_le h1
 obtain ⟨b,rfl⟩ := Int.eq_ofNat_of_zero_le h3
 have h := or_nib_all ⟨a,by omega⟩ ⟨b,by omega⟩
 simp only [Int.natCast_mul,Int.natCast_add] at h
 exact h

def RowB (w : World) (base g n c : Nat) (L : List Int) : Prop := L.length = n ∧ w.ownsRow base 5 1 (.slice (some ⟨g,0,none⟩) n c) n (L.map (.int .u8))
section
variable {w w' : World} {base g n c : Nat} {L : List Int}
theorem RowB.at (h : RowB w base g n c L) {i : Nat} {x : Int} (hx : L[i]? = some x) : w.cell? ⟨g,i,none⟩ = some (.int .u8 x) := by
 have hlt := (List.getElem?_eq_some_iff.1 hx).1
 rw [h.2.cellAt i (by have := h.1;omega),List.getElem?_map,hx];rfl
theorem RowB.frozen (h : RowB w base g n c L) (i : Nat) : w.frozen? ⟨g,i,none⟩ = false := h.2.frozenAt i
theorem RowB.cap (h : RowB w base g n c L) : n ≤ c := by
 rcases h.2.2 with ⟨h1,h2⟩ | ⟨g',cp,cur,h1,-,-,h4,-⟩
 ·cases h1
 ·cases h1;exact h4
theorem RowB.lt (h : RowB w base g n c L) : base ≤ g ∧ g < w.heap.size := h.2.lt g rfl
theorem RowB.set (h : RowB w base g n c L) (i : Nat) (x : Int) : RowB (w.setCell ⟨g,i,none⟩ (.int .u8 x)) base g n c (L.set i x) :=
 ⟨by rw [List.length_set];exact h.1,by rw [List.map_set];exact (h.2.stored i _).1⟩
theorem RowB.keeps {S : List Nat} (h : RowB w base g n c L) (k : Keeps w w' S) (hn : g ∉ S) : RowB w' base g n c L := by
 refine ⟨h.1,?_⟩
 obtain ⟨h1,h2⟩ := h.2
 refine ⟨h1,?_⟩
 rcases h2 with h2 | ⟨g',cp,cur,e,hg,hb,r⟩
 ·exact .inl h2
 ·cases e
  exact .inr ⟨g,c,cur,rfl,hg,(k.block g (Array.getElem?_eq_some_iff.1 hb).1 hn).trans hb,r⟩
end
theorem rowB_own {w : World} {base n c : Nat} {a : Option Addr} {L : List Int} (hl : L.length = n) (h0 : 0 < n) (h : w.ownsRow base 5 1 (.slice a n c) n (L.map (.int .u8))) : ∃ g,a = some ⟨g,0,none⟩ ∧ RowB w base g n c L := by
 rcases h.2 with ⟨h1,h2⟩ | ⟨g,cp,cur,h1,h2⟩
 ·omega
 ·cases h1
  exact ⟨g,rfl,hl,h⟩
end

section
open Go.RowKit

theorem shr_sum {S X : Nat} (h1 : 1 ≤ X) (hX : X ≤ 11) (hS : S ≤ 1024000000) : wrap64 ((S : Int) + 2048 / (2 : Int) ^ X) = ((S + (if 0 < (X : Int) then 2 ^ (11 - X) else 0) : Nat) : Int) := by
 have h : X = 1 ∨ X = 2 ∨ X = 3 ∨ X = 4 ∨ X = 5 ∨ X = 6 ∨ X = 7 ∨ X = 8 ∨ X = 9 ∨ X = 10 ∨ X = 11 := by omega
 rcases h with rfl | rfl | rfl | rfl | rfl | rfl | rfl | rfl | rfl | rfl | rfl <;> simp [wrap64] <;> omega

set_option maxHeartbeats 2000000 in
theorem r_right14 (v : Value) (l : List Int) (w : World) (hv : RdI .i64 w v l) (hn : l.length ≤ 1000000) :
  Calls Tryz.prog 45 #[v] w fun e w' => e = .returned (.bool (treeL l)) ∧ w = w' := by
 obtain ⟨A0,n,cp0,rfl,hnl,-⟩ := hv.form
 have HV := Lib.hid hv
 have HN := Lib.hid hnl
 have hn' : n ≤ 1000000 := by omega
 obtain ⟨R,hR⟩ : ∃ R,R = treeL l := ⟨_,rfl⟩
 have HR := Lib.hid hR
 rw [← hR]
 clear hv hnl hn hR
 by_cases h256 : 256 < n
 ·have NO : R = false := by rw [HR.out,Bool.eq_false_iff];intro h;have := (treeL_iff.1 h).1;have := HN.out;omega
  subst NO
  have h256' : (256 : Int) < (n : Int) := by omega
  clear HR
  go_enter Tryz.func45,Tryz.ntmps45
  go_wp2_with fail
  go_ret
  exact ⟨rfl,rfl⟩
 ·have d256 : decide ((256 : Int) < (n : Int)) = false := decide_eq_false (by omega)
  have hn2 : n ≤ 256 := by omega
  go_enter Tryz.func45,Tryz.ntmps45
  go_wp2_with fail
  clear d256
  go_loop [3,4,5] (fun s c i => ∃ k : Nat,k ≤ n ∧ i = .int .i64 k ∧ s = .int .i64 (sum11 (l.take k) : Nat) ∧ c = .int .i64 (usedL (l.take k)).length ∧ Hid ((l.take k).all (finM 11) = true)) (fun _ _ i => n - (intOf i).toNat)
  case atStart => exact ⟨0,Nat.zero_le _,rfl,rfl,rfl,by simp [Hid]⟩
  case round =>
   obtain ⟨k,hk,rfl,rfl,rfl,hall⟩ := hrel
   by_cases hlt : k < n
   ·obtain ⟨x,hx⟩ : ∃ x,l[k]? = some x := ⟨_,List.getElem?_eq_getElem (by have := HN.out;omega)⟩
    obtain ⟨b,o,rfl,hb,hc⟩ := HV.out.at hx
    have hcap := HV.out.cap
    have hkn : (k : Int) < (n : Int) := by omega
    have hs1 := sum11_le (l.take k)
    have hs2 : (l.take k).length ≤ k := List.length_take_le _ _
    have hu1 : (usedL (l.take k)).length ≤ k := by have := usedL_len (l.take k);simp at this;omega
    have HST : Hid (sum11 (l.take (k + 1)) = sum11 (l.take k) + if 0 < x then 2 ^ (11 - x.toNat) else 0) := by show _ = _;rw [take_next hx,sum11_snoc]
    have HUC := Lib.hid (usedL_count hx)
    have HAL : Hid (finM 11 x = true → (l.take (k + 1)).all (finM 11) = true) := fun h => by rw [take_next hx,List.all_append,hall.out];simp [h]
    have HBAD : Hid (finM 11 x = false → R = false) := fun h => by
     rw [HR.out,Bool.eq_false_iff]
     intro ht
     have := (treeL_iff.1 ht).2.1 x (List.mem_of_getElem? hx)
     rw [← Bool.not_eq_true,finM_iff] at h
     exact h this
    obtain ⟨S,hS⟩ : ∃ S,S = sum11 (l.take k) := ⟨_,rfl⟩
    obtain ⟨U,hU⟩ : ∃ U,U = (usedL (l.take k)).length := ⟨_,rfl⟩
    rw [← hS] at hs1 HST ⊢
    rw [← hU] at hu1 HUC ⊢
    have hS9 : S ≤ 1024000000 := by omega
    have hU9 : (U : Int) ≤ 1000000 := by omega
    clear hx hS hU hs1 hs2
    by_cases hx0 : x < 0
    ·obtain rfl := HBAD.out (by simp [finM];omega)
     clear HR
     go_wp2_with fail
     go_ret
     exact ⟨rfl,rfl⟩
    ·have d0 : decide (x < 0) = false := decide_eq_false hx0
     by_cases hx11 : 11 < x
     ·obtain rfl := HBAD.out (by simp [finM];omega)
      clear HR
      go_wp2_with fail
      go_ret
      exact ⟨rfl,rfl⟩
     ·have d1 : decide (11 < x) = false := decide_eq_false hx11
      have NAL := Lib.hid (HAL.out (finM_iff.2 ⟨by omega,by omega⟩))
      by_cases hp : 0 < x
      ·obtain ⟨X,rfl⟩ : ∃ X : Nat,x = (X : Int) := ⟨x.toNat,by omega⟩
       have hX1 : 1 ≤ X := by omega
       have hX2 : X ≤ 11 := by omega
       have hsum : Hid (wrap64 ((S : Int) + 2048 / (2 : Int) ^ X) = ((sum11 (l.take (k + 1)) : Nat) : Int)) := by
        show _ = _
        rw [shr_sum hX1 hX2 hS9,HST.out,Int.toNat_natCast]
       clear HBAD HAL HST
       go_wp2_with fail
       go_round
       case rel => exact ⟨k + 1,by omega,by go_num,by rw [hsum.out],by rw [HUC.out,if_pos hp];go_num,NAL⟩
       case measure => simp [intOf];omega
      ·have d2 : decide (0 < x) = false := decide_eq_false hp
       clear HBAD HAL
       go_wp2_with fail
       go_round
       case rel => exact ⟨k + 1,by omega,by go_num,by rw [HST.out,if_neg hp,Nat.add_zero],by rw [HUC.out,if_neg hp,Nat.add_zero],NAL⟩
       case measure => simp [intOf];omega
   ·obtain rfl : k = n := by omega
    have hR2 : Hid (R = (decide (2 ≤ ((usedL (l.take k)).length : Int)) && ((sum11 (l.take k) : Nat) : Int) == 2048)) := by
     have e : l.take k = l := List.take_of_length_le (by have := HN.out;omega)
     have h1 := hall.out
     rw [e] at h1
     show _ = _
     rw [HR.out,e,Bool.eq_iff_iff]
     have h2 := HN.out
     simp [treeL,h1,← h2]
     omega
    have HR2 := Lib.hid hR2.out
    clear hR2 HR
    generalize sum11 (l.take k) = S at *
    generalize (usedL (l.take k)).length = U at *
    go_wp2_with fail
    all_goals
     go_ret
     refine ⟨ret_bool ?_,rfl⟩
     rw [HR2.out]
     first | (simp [*];done) | (simp [*];omega)
end

section
def packF : Nat → List Bool → List Int
 | 0,_ => []
 | f + 1,L => match L with
  | [] => []
  | b :: l => (valL ((b :: l).take 8) : Int) :: packF f ((b :: l).drop 8)
def packB (L : List Bool) : List Int := packF L.length L
theorem packF_nil : ∀ f,packF f [] = []
 | 0 => rfl
 | f + 1 => rfl
theorem packF_step {f : Nat} {L : List Bool} (h : L ≠ []) : packF (f + 1) L = (valL (L.take 8) : Int) :: packF f (L.drop 8) := by
 cases L with
 | nil => exact (h rfl).elim
 | cons b l => rfl
theorem packF_fuel : ∀ {f f' : Nat} {L : List Bool},L.length ≤ f → L.length ≤ f' → packF f L = packF f' L
 | 0,f',L,h,_ => by
  obtain rfl : L = [] := List.eq_nil_of_length_eq_zero (by omega)
  rw [packF_nil,packF_nil]
 | f + 1,0,L,_,h => by
  obtain rfl : L = [] := List.eq_nil_of_length_eq_zero (by omega)
  rw [packF_nil,packF_nil]
 | f + 1,f' + 1,L,h1,h2 => by
  by_cases hL : L = []
  ·subst hL;rw [packF_nil,packF_nil]
  ·have h0 : 0 < L.length := List.length_pos_iff.2 hL
   rw [packF_step hL,packF_step hL,packF_fuel (f := f) (f' := f') (L := L.drop 8) (by rw [List.length_drop];omega) (by rw [List.length_drop];omega)]
theorem packB_step {L : List Bool} (h : L ≠ []) : packB L = (valL (L.take 8) : Int) :: packB (L.drop 8) := by
 have h0 : 0 < L.length := List.length_pos_iff.2 h
 unfold packB
 obtain ⟨k,hk⟩ : ∃ k,L.length = k + 1 := ⟨L.length - 1,by omega⟩
 rw [hk,packF_step h]
 congr 1
 exact packF_fuel (by rw [List.length_drop];omega) (Nat.le_refl _)
theorem packB_row : ∀ {B : List Int} {v n : Nat},(∀ x ∈ B,0 ≤ x ∧ x ≤ 255) → n < 8 → v < 2 ^ n → packB (rowBits B ++ bitsN v n) = B ++ (if 0 < n then [(v : Int)] else [])
 | [],v,n,_,hn,hv => by
  by_cases h : 0 < n
  ·rw [if_pos h]
   obtain ⟨k,rfl⟩ : ∃ k,n = k + 1 := ⟨n - 1,by omega⟩
   have hl := bitsN_len v (k + 1)
   have hne : rowBits [] ++ bitsN v (k + 1) ≠ [] := by rw [rowBits,List.nil_append];unfold bitsN;simp
   rw [packB_step hne,rowBits,List.nil_append,List.take_of_length_le (by omega),List.drop_of_length_le (by omega),valL_bitsN,Nat.mod_eq_of_lt hv]
   rfl
  ·obtain rfl : n = 0 := by omega
   rfl
 | x :: B,v,n,hB,hn,hv => by
  have hx := hB x (by simp)
  have hl := bitsN_len x.toNat 8
  have ih := packB_row (B := B) (v := v) (n := n) (fun y hy => hB y (by simp [hy])) hn hv
  have hne : rowBits (x :: B) ++ bitsN v n ≠ [] := by rw [rowBits];unfold bitsN;simp
  rw [packB_step hne]
  have e : rowBits (x :: B) ++ bitsN v n = bitsN x.toNat 8 ++ (rowBits B ++ bitsN v n) := by rw [rowBits,List.append_assoc]
  rw [e,List.take_left' hl,List.drop_left' hl,ih,valL_bitsN,Nat.mod_eq_of_lt (by omega),List.cons_append]
  congr 1
  omega
theorem bitsN_valL : ∀ L : List Bool,bitsN (valL L) L.length = L
 | [] => rfl
 | b :: L => by
  have ih := bitsN_valL L
  simp only [List.length_cons,bitsN,valL]
  cases b with
  | true =>
   rw [if_pos rfl,show (1 + 2 * valL L) / 2 = valL L by omega,ih,decide_eq_true (by omega)]
  | false =>
   rw [if_neg (by simp),show (0 + 2 * valL L) / 2 = valL L by omega,ih,decide_eq_false (by omega)]
theorem bitsN_pad : ∀ (v n k : Nat),v < 2 ^ n → bitsN v (n + k) = bitsN v n ++ List.replicate k false
 | v,0,k,h => by
  obtain rfl : v = 0 := by simpa using h
  rw [Nat.zero_add,bitsN,List.nil_append]
  induction k with
  | zero => rfl
  | succ k ih => rw [bitsN,List.replicate_succ,show 0 / 2 = 0 from rfl,ih];rfl
 | v,n + 1,k,h => by
  rw [show n + 1 + k = (n + k) + 1 by omega,bitsN,bitsN,bitsN_pad (v / 2) n k (by rw [Nat.pow_succ] at h;omega),List.cons_append]
theorem row_form : ∀ (f : Nat) (L : List Bool),L.length ≤ f → ∃ (B : List Int) (v n : Nat),(∀ x ∈ B,0 ≤ x ∧ x ≤ 255) ∧ n < 8 ∧ v < 2 ^ n ∧ L = rowBits B ++ bitsN v n
 | 0,L,h => ⟨[],0,0,by simp,by omega,by decide,by
  obtain rfl : L = [] := List.eq_nil_of_length_eq_zero (by omega)
  rfl⟩
 | f + 1,L,h => by
  by_cases h8 : L.length < 8
  ·exact ⟨[],valL L,L.length,by simp,h8,valL_lt L,by rw [bitsN_valL];rfl⟩
  ·obtain ⟨B,v,n,h1,h2,h3,h4⟩ := row_form f (L.drop 8) (by rw [List.length_drop];omega)
   have ht : (L.take 8).length = 8 := by rw [List.length_take];omega
   have hv := valL_lt (L.take 8)
   rw [ht] at hv
   refine ⟨((valL (L.take 8) : Nat) : Int) :: B,v,n,?_,h2,h3,?_⟩
   ·intro x hx
    rcases List.mem_cons.1 hx with rfl | hx
    ·omega
    ·exact h1 x hx
   ·rw [rowBits,List.append_assoc,← h4,Int.toNat_natCast]
    have := bitsN_valL (L.take 8)
    rw [ht] at this
    rw [this,List.take_append_drop]
theorem packB_bits (L : List Bool) : ∃ k,k < 8 ∧ rowBits (packB L) = L ++ List.replicate k false ∧ 8 * (packB L).length = L.length + k ∧ ∀ x ∈ packB L,0 ≤ x ∧ x ≤ 255 := by
 obtain ⟨B,v,n,h1,h2,h3,rfl⟩ := row_form L.length L (Nat.le_refl _)
 rw [packB_row h1 h2 h3]
 by_cases h : 0 < n
 ·rw [if_pos h]
  have hv8 : v < 256 := by
   have : 2 ^ n ≤ 2 ^ 7 := Nat.pow_le_pow_right (by decide) (by omega)
   have e : (2 : Nat) ^ 7 = 128 := by decide
   omega
  refine ⟨8 - n,by omega,?_,?_,?_⟩
  ·have hp := bitsN_pad v n (8 - n) h3
   rw [show n + (8 - n) = 8 by omega] at hp
   rw [rowBits_append,rowBits,rowBits,List.append_nil,Int.toNat_natCast,hp,List.append_assoc]
  ·rw [List.length_append,List.length_append,rowBits_len,bitsN_len,List.length_singleton];omega
  ·intro x hx
   rcases List.mem_append.1 hx with hx | hx
   ·exact h1 x hx
   ·have := List.mem_singleton.1 hx;omega
 ·obtain rfl : n = 0 := by omega
  refine ⟨0,by omega,?_,?_,?_⟩
  ·simp [bitsN]
  ·rw [List.length_append,List.length_append,rowBits_len,bitsN_len];simp
  ·intro x hx
   rcases List.mem_append.1 hx with hx | hx
   ·exact h1 x hx
   ·simp at hx
theorem packB_len (L : List Bool) : (packB L).length ≤ L.length := by
 obtain ⟨k,h1,-,h2,-⟩ := packB_bits L
 omega

def numB (m v : Nat) : List Bool := if v < 2 ^ (m.log2 + 1) - m then bitsN v m.log2 else bitsN ((v + (2 ^ (m.log2 + 1) - m)) / 2) m.log2 ++ bitsN ((v + (2 ^ (m.log2 + 1) - m)) % 2) 1
theorem tk_bits {v n : Nat} (h : v < 2 ^ n) (R : List Bool) : tk (bitsN v n ++ R) n = .ok (v,R) := by
 have hl := bitsN_len v n
 rw [tk_ok (by rw [List.length_append];omega),List.take_left' hl,List.drop_left' hl,valL_bitsN,Nat.mod_eq_of_lt h]
theorem numP_numB {m v : Nat} (h : v < m) (R : List Bool) : numP (numB m v ++ R) m = .ok (v,R) := by
 have h1 := log2_le (m := m) (by omega)
 have h2 := log2_ltD (m := m) (by omega)
 have h3 : 2 ^ (m.log2 + 1) = 2 * 2 ^ m.log2 := by rw [Nat.pow_succ];omega
 unfold numP numB
 by_cases hv : v < 2 ^ (m.log2 + 1) - m
 ·rw [if_pos hv,tk_bits (by omega)]
  simp only
  rw [if_pos hv]
 ·rw [if_neg hv,List.append_assoc,tk_bits (by omega)]
  simp only
  rw [if_neg (by omega),tk_bits (by rw [Nat.pow_one];omega)]
  simp only
  congr 2
  omega

def zrL : List Int → Nat
 | [] => 0
 | n :: l => if n = 0 then zrL l + 1 else 0
theorem zrL_le : ∀ l : List Int,zrL l ≤ l.length
 | [] => Nat.le_refl _
 | n :: l => by
  have := zrL_le l
  unfold zrL
  split
  ·simp only [List.length_cons];omega
  ·omega
theorem zrL_split : ∀ l : List Int,l = List.replicate (zrL l) 0 ++ l.drop (zrL l)
 | [] => rfl
 | n :: l => by
  by_cases h : n = 0
  ·subst h
   have := zrL_split l
   rw [zrL,if_pos rfl,List.replicate_succ,List.cons_append,List.drop_succ_cons,← this]
  ·rw [zrL,if_neg h];rfl
theorem zrL_head : ∀ l : List Int,(l.drop (zrL l)).head? ≠ some 0
 | [] => by simp
 | n :: l => by
  by_cases h : n = 0
  ·subst h
   rw [zrL,if_pos rfl,List.drop_succ_cons]
   exact zrL_head l
  ·rw [zrL,if_neg h];simpa using h

def zerosE : Nat → Nat → List Bool
 | 0,k => bitsN k 2
 | f + 1,k => if 3 ≤ k then bitsN 3 2 ++ zerosE f (k - 3) else bitsN k 2
theorem zerosP_zerosE {symbols : Nat} (R : List Bool) : ∀ (f e k : Nat) (out : List Int),k ≤ 3 * e + 2 → k < f → out.length + k < symbols → zerosP symbols f (zerosE e k ++ R) out = .ok (out ++ List.replicate k 0,R)
 | 0,e,k,out,_,h,_ => by omega
 | f + 1,0,k,out,h0,h1,h2 => by
  unfold zerosP zerosE
  rw [if_neg (by omega),tk_bits (by omega)]
  simp only
  rw [if_neg (by omega)]
 | f + 1,e + 1,k,out,h0,h1,h2 => by
  unfold zerosP zerosE
  by_cases h3 : 3 ≤ k
  ·rw [if_pos h3,if_neg (by omega),List.append_assoc,tk_bits (by decide)]
   simp only
   rw [if_pos trivial,zerosP_zerosE R f e (k - 3) (out ++ List.replicate 3 0) (by omega) (by omega) (by simp;omega),List.append_assoc,List.replicate_append_replicate,show 3 + (k - 3) = k by omega]
  ·rw [if_neg h3,if_neg (by omega),tk_bits (by omega)]
   simp only
   rw [if_neg (by omega)]

def normsE : Nat → Nat → List Int → List Bool
 | 0,_,_ => []
 | _ + 1,_,[] => []
 | f + 1,left,n :: l => numB (left + 2) (n + 1).toNat ++ (if n = 0 then zerosE (zrL l) (zrL l) ++ normsE f left (l.drop (zrL l)) else normsE f (left - (stN n).toNat) l)

theorem normsP_normsE {symbols : Nat} (R : List Bool) : ∀ (f g left : Nat) (l out : List Int) (ran : Bool),l.length < f → l.length ≤ g → (∀ n ∈ l,-1 ≤ n) → sumN l = (left : Int) → out.length + l.length ≤ symbols → (l ≠ [] → l.getLast? ≠ some 0) → (ran = true → l.head? ≠ some 0) →
  normsP symbols f (normsE g left l ++ R) left out ran = .ok (out ++ l,R)
 | 0,_,_,_,_,_,h,_,_,_,_,_,_ => by omega
 | f + 1,g,left,[],out,ran,_,_,_,hs,_,_,_ => by
  have : left = 0 := by simp only [sumN] at hs;omega
  subst this
  unfold normsP
  cases g <;> simp [normsE]
 | f + 1,0,left,n :: l,out,ran,_,hg,_,_,_,_,_ => by simp at hg
 | f + 1,g + 1,left,n :: l,out,ran,hf,hg,hlow,hs,hsy,hlast,hran => by
  have hn := hlow n (by simp)
  have hlow' : ∀ x ∈ l,-1 ≤ x := fun x hx => hlow x (by simp [hx])
  have hp := sumN_nonneg hlow'
  have hst := stN_nonneg hn
  simp only [sumN] at hs
  simp only [List.length_cons] at hf hg hsy
  have hleft : left ≠ 0 := by
   intro h0
   subst h0
   -- all norms are 0,but the last one isn't
   have hz : ∀ (m : List Int),(∀ x ∈ m,-1 ≤ x) → sumN m = 0 → m ≠ [] → m.getLast? = some 0 := by
    intro m
    induction m with
    | nil => intro _ _ h;exact (h rfl).elim
    | cons y m ih =>
     intro h1 h2 _
     have hy := stN_nonneg (h1 y (by simp))
     have hm := sumN_nonneg (l := m) (fun x hx => h1 x (by simp [hx]))
     simp only [sumN] at h2
     by_cases hm0 : m = []
     ·subst hm0
      have : stN y = 0 := by simp only [sumN] at h2;omega
      have hy0 : y = 0 := by unfold stN at this;split at this <;> omega
      subst hy0
      rfl
     ·have := ih (fun x hx => h1 x (by simp [hx])) (by omega) hm0
      rw [List.getLast?_cons,this];rfl
   exact hlast (by simp) (hz (n :: l) hlow (by simp only [sumN];omega) (by simp))
  have hstn : stN n ≤ (left : Int) := by omega
  have hstx : n ≤ stN n := by unfold stN;split <;> omega
  unfold normsP normsE
  rw [if_neg hleft,if_neg (by omega),List.append_assoc,numP_numB (by omega)]
  simp only
  by_cases h0 : n = 0
  ·subst h0
   have hr : ran ≠ true := fun h => hran h (by simp)
   rw [if_neg (by rintro ⟨-,h⟩;exact hr h),if_pos (show ((0 : Int) + 1).toNat = 1 from rfl),if_pos rfl,List.append_assoc]
   have hzl := zrL_le l
   have hsp := zrL_split l
   have hne : l.drop (zrL l) ≠ [] := by
    intro h
    rw [h,List.append_nil] at hsp
    refine hlast (by simp) ?_
    rw [hsp,← List.replicate_succ]
    simp [List.getLast?_replicate]
   have hlt : zrL l < l.length := by
    have : 0 < (l.drop (zrL l)).length := List.length_pos_iff.2 hne
    rw [List.length_drop] at this
    omega
   rw [zerosP_zerosE _ (symbols + 1) (zrL l) (zrL l) _ (by omega) (by omega) (by simp;omega)]
   simp only
   have hsum : sumN (l.drop (zrL l)) = (left : Int) := by
    have hz : ∀ k,sumN (List.replicate k (0 : Int)) = 0 := by
     intro k
     induction k with
     | zero => rfl
     | succ k ih => rw [List.replicate_succ,sumN,ih];rfl
    have e := sumN_append (List.replicate (zrL l) 0) (l.drop (zrL l))
    rw [← hsp,hz] at e
    have : stN 0 = 0 := rfl
    omega
   rw [normsP_normsE R f g left (l.drop (zrL l)) _ true (by rw [List.length_drop];omega) (by rw [List.length_drop];omega) (fun x hx => hlow' x (List.mem_of_mem_drop hx)) hsum
    (by simp only [List.length_append,List.length_singleton,List.length_replicate,List.length_drop];omega) (fun _ => by
     intro h
     refine hlast (by simp) ?_
     rw [List.getLast?_drop,if_neg (by omega)] at h
     rw [List.getLast?_cons,h];rfl) (fun _ => zrL_head l)]
   congr 2
   rw [List.append_assoc,List.append_assoc,← hsp]
   rfl
  ·rw [if_neg (by omega),if_neg (by omega),if_neg h0]
   have e1 : left - (if (n + 1).toNat = 0 then 1 else (n + 1).toNat - 1) = left - (stN n).toNat := by
    unfold stN
    split <;> split <;> omega
   rw [e1,normsP_normsE R f g (left - (stN n).toNat) l _ false (by omega) (by omega) hlow' (by omega)
    (by simp only [List.length_append,List.length_singleton];omega) (fun hne h => by
     refine hlast (by simp) ?_
     rw [List.getLast?_cons,h];rfl) (fun h => by cases h)]
   congr 2
   rw [List.append_assoc]
   congr 1
   simp only [List.singleton_append]
   congr 1
   omega

def descL (log : Nat) (norm : List Int) : List Bool := bitsN (log - 1) 4 ++ normsE norm.length (2 ^ log) norm
def descE (log : Nat) (norm : List Int) : List Int := packB (descL log norm)
end

section
open Go.RowKit

def SeqZ {α : Type} (P : Program) (g : Nat) (lb : Array Value) (encs : α → Array Value) (X : List Nat) (Fx : World → Prop) (S Sp : List α → Prop) (w : World) : Prop :=
 ∀ (l : Nat) (J Jx : List α → World → Prop) (W : World),SameAt X w W →
  (∀ s A B,J s A → Keeps A B [] → J s B) → (∀ s A B,Jx s A → Keeps A B [] → Jx s B) →
  (∀ pre x W1,J pre W1 → Fx W1 → Sp (pre ++ [x]) → YieldAt Fence.wide 9 P l (encs x) W1 fun e W' => SameAt X W1 W' ∧
   ((e = .returned (.bool true) ∧ J (pre ++ [x]) W') ∨ (e = .returned (.bool false) ∧ Jx (pre ++ [x]) W'))) →
  J [] W →
  CallsIn Fence.wide 9 P g (#[.func (.yield l) #[] #[]] ++ lb) W fun e W' => (∃ v,e = .returned v) ∧ ((∃ xs,S xs ∧ J xs W') ∨ (∃ pre,Sp pre ∧ Jx pre W'))

theorem range_BZ {α : Type} {P : Program} {n : Nat} {g : Operand} {ps : Array Tmp} {assign body : Code} {Q : Exit → Act → World → Prop} {a : Act} {w : World}
  {gf : Nat} {lb : Array Value} (hg : a.eval g = .func (.func gf) #[] lb) (eg : ∀ args w,(callFunc gf args).run P w = .ok (.enter gf args) w)
  {encs : α → Array Value} {X : List Nat} {Fx : World → Prop} {S Sp : List α → Prop} (hseq : SeqZ P gf lb encs X Fx S Sp w)
  (hX : ∀ k ∈ X,k < w.heap.size) (hps : ∀ x,(encs x).size = ps.size)
  (I : List α → World → Prop) (Ix : Code → List α → World → Prop) (hI : ∀ s A B,I s A → Keeps A B [w.heap.size,w.heap.size + 1] → I s B) (hIx : ∀ c s A B,Ix c s A → Keeps A B [w.heap.size,w.heap.size + 1] → Ix c s B) (h0 : I [] w)
  (hround : ∀ (l : Nat) (pre : List α) (x : α) (W : World),l = w.heap.size + 1 → l < W.heap.size → W.heap[w.heap.size]? = some (.deferred (some [])) → Fx W → I pre W → Sp (pre ++ [x]) →
   assign.wpIn (Fence.wide.inRound l) 9 P (Exit.then (fun a' W' => SameAt (X ++ [w.heap.size,w.heap.size + 1]) W W' ∧ ∀ W2,Turned l W' W2 → body.wpIn (Fence.wide.inRound l) 9 P (postY (X ++ [w.heap.size,w.heap.size + 1]) I Ix (pre ++ [x]) W2) a' W2) (fun _ _ _ => False))
    { tmps := (ps.zip (encs x)).foldl (fun t (p,v) => t.setIfInBounds p v) a.tmps,defers := [] } W)
  (hdone : ∀ (D : Nat) (xs : List α) (W : World),w.heap.size ≤ D → S xs → I xs W → W.heap[D]? = some (.deferred (some [])) → Q .normal { a with defers := { target := .collected D,args := #[] } :: a.defers } W)
  (hstop : ∀ (D : Nat) (c : Code) (pre : List α) (W : World),w.heap.size ≤ D → Sp pre → Ix c pre W → W.heap[D]? = some (.deferred (some [])) → c.wpIn Fence.wide n P Q { a with defers := { target := .collected D,args := #[] } :: a.defers } W) :
  (Code.rangeFunc g ps assign body).wpIn Fence.wide n P Q a w := by
 refine wpIn_rangeFunc ?_
 intro fn hfn
 obtain ⟨rec,hrec⟩ : ∃ rec : LoopState → Option Code → Loop,rec = fun st pe => { state := st,pending := pe,fn,tmps := a.tmps,params := ps,assign,body,defers := w.heap.size } := ⟨_,rfl⟩
 obtain ⟨W1,hW1⟩ : ∃ W1,(w.alloc (.deferred (some []))).alloc (.loop (rec .ready none)) = W1 := ⟨_,rfl⟩
 have hs1 : W1.heap.size = w.heap.size + 2 := by rw [← hW1];simp
 have hB1 : Below w.heap.size w W1 := by rw [← hW1];exact ((Below.refl _ w).alloc (Nat.le_refl _) _).alloc (by simp) _
 have hL1 : W1.heap[w.heap.size + 1]? = some (.loop (rec .ready none)) := by
  rw [← hW1];have := World.alloc_heap_new (w.alloc (.deferred (some []))) (.loop (rec .ready none));rwa [World.size_alloc] at this
 have hK1 : W1.heap[w.heap.size]? = some (.deferred (some [])) := by
  rw [← hW1];exact (Below.heap_alloc _ _ _ (by simp)).trans (World.alloc_heap_new w _)
 refine ⟨w.heap.size + 1,[{ target := .collected w.heap.size,args := #[] }],W1,{ target := .fn (.func gf) lb,args := #[.func (.yield (w.heap.size + 1)) #[] #[]] },W1,gf,
  #[.func (.yield (w.heap.size + 1)) #[] #[]] ++ lb,W1,?_,?_,fun _ _ => trivial,?_,fun h => by simp [Fence.wide] at h,callsIn_any (n := 9) ?_⟩
 ·rw [← hW1,hrec];exact run_enterLoop_outer _ _ _ _ _
 ·simp only [resolve,hg]
  simp [go_sem]
 ·simp [invoke,go_sem,eg]
 have nX : ∀ k,w.heap.size ≤ k → k ∉ X := fun k h hm => by have := hX k hm;omega
 have hU : ∀ k ∈ X,k ∈ X ++ [w.heap.size,w.heap.size + 1] := fun k hk => List.mem_append.2 (.inl hk)
 have hl' : w.heap.size + 1 ∈ X ++ [w.heap.size,w.heap.size + 1] := by simp
 have hd' : w.heap.size ∈ X ++ [w.heap.size,w.heap.size + 1] := by simp
 have stay : ∀ {A B : World} {o : Obj} {k : Nat},A.heap[k]? = some o → w.heap.size ≤ k → Keeps A B [] → B.heap[k]? = some o := fun h hk hb => (hb.block _ (Array.getElem?_eq_some_iff.1 h).1 (by simp)).trans h
 refine (hseq (w.heap.size + 1)
  (fun pre W => I pre W ∧ W.heap[w.heap.size + 1]? = some (.loop (rec .ready none)) ∧ W.heap[w.heap.size]? = some (.deferred (some [])))
  (fun pre W => ∃ c,Ix c pre W ∧ W.heap[w.heap.size + 1]? = some (.loop (rec .done (some c))) ∧ W.heap[w.heap.size]? = some (.deferred (some [])))
  W1 (fun k hk => hB1.block k (hX k hk)) ?_ ?_ ?_ ⟨hI _ _ _ h0 ((Keeps.of_below hB1).mono (by simp)),hL1,hK1⟩).mono ?_
 ·rintro s A B ⟨hi,hl,hk⟩ hb
  exact ⟨hI _ _ _ hi (hb.mono (by simp)),stay hl (by omega) hb,stay hk (by omega) hb⟩
 ·rintro s A B ⟨c,hi,hl,hk⟩ hb
  exact ⟨c,hIx _ _ _ _ hi (hb.mono (by simp)),stay hl (by omega) hb,stay hk (by omega) hb⟩
 ·-- one round
  rintro pre x W ⟨hi,hl,hk⟩ hfx hsp
  have hlt : w.heap.size + 1 < W.heap.size := (Array.getElem?_eq_some_iff.1 hl).1
  have hy := run_yield (P := P) (args := encs x) hl (by rw [hrec];exact hps x)
  rw [hrec] at hy
  refine ⟨fn,_,assign,body,hy,roundIn_of_wpIn hfn (wpIn_mono (hround _ pre x W rfl hlt hk hfx hi hsp) ?_)⟩
  clear hy
  rintro e a' Wa hq
  cases e with
  | normal =>
   obtain ⟨hka,hbody⟩ := hq
   have hla := (hka _ hl').trans hl
   have hKa := (hka _ hd').trans hk
   have hlta : w.heap.size + 1 < Wa.heap.size := (Array.getElem?_eq_some_iff.1 hla).1
   refine ⟨_,run_beginRound hla (by rw [hrec]),?_⟩
   have hT : Turned (w.heap.size + 1) Wa (Wa.putObj (w.heap.size + 1) (.loop { rec .ready none with state := .busy })) := ⟨_,_,hla,rfl⟩
   have hl2 : (Wa.putObj (w.heap.size + 1) (.loop { rec .ready none with state := .busy })).heap[w.heap.size + 1]? = some (.loop { rec .ready none with state := .busy }) := World.putObj_heap_same hlta
   have hk2 : (Wa.putObj (w.heap.size + 1) (.loop { rec .ready none with state := .busy })).heap[w.heap.size]? = some (.deferred (some [])) := (World.putObj_heap_other (by omega)).trans hKa
   have hka2 : SameAt X W (Wa.putObj (w.heap.size + 1) (.loop { rec .ready none with state := .busy })) := (hka.mono hU).trans (same_put (nX _ (by omega)))
   refine wpIn_mono (hbody _ hT) ?_
   have fin : ∀ (jump : Option Code) (W3 : World),SameAt (X ++ [w.heap.size,w.heap.size + 1]) (Wa.putObj (w.heap.size + 1) (.loop { rec .ready none with state := .busy })) W3 →
     (Instr.endRound (w.heap.size + 1) jump).run P W3 = .ok (.bool jump.isNone) (W3.putObj (w.heap.size + 1) (.loop (rec (if jump.isNone then .ready else .done) jump))) ∧
     Keeps W3 (W3.putObj (w.heap.size + 1) (.loop (rec (if jump.isNone then .ready else .done) jump))) [w.heap.size,w.heap.size + 1] ∧
     (W3.putObj (w.heap.size + 1) (.loop (rec (if jump.isNone then .ready else .done) jump))).heap[w.heap.size + 1]? = some (.loop (rec (if jump.isNone then .ready else .done) jump)) ∧
     (W3.putObj (w.heap.size + 1) (.loop (rec (if jump.isNone then .ready else .done) jump))).heap[w.heap.size]? = some (.deferred (some [])) ∧
     SameAt X W (W3.putObj (w.heap.size + 1) (.loop (rec (if jump.isNone then .ready else .done) jump))) := fun jump W3 hk3 => by
    have hl3 := (hk3 _ hl').trans hl2
    have hk3' := (hk3 _ hd').trans hk2
    have hr := run_endRound (P := P) jump hl3
    refine ⟨?_,keeps_put.mono (by simp),World.putObj_heap_same (Array.getElem?_eq_some_iff.1 hl3).1,(World.putObj_heap_other (by omega)).trans hk3',?_⟩
    ·rw [hrec] at hr ⊢;exact hr
    ·exact (hka2.trans (hk3.mono hU)).trans (same_put (nX _ (by omega)))
   rintro e a3 W3 hp
   cases e with
   | normal =>
    obtain ⟨hk3,hi3⟩ := hp
    obtain ⟨hr,hb4,hl4,hk4,hkk⟩ := fin none W3 hk3
    exact ⟨_,_,hr,hkk,.inl ⟨rfl,hI _ _ _ hi3 hb4,hl4,hk4⟩⟩
   | ret =>
    obtain ⟨hk3,hi3⟩ := hp
    obtain ⟨hr,hb4,hl4,hk4,hkk⟩ := fin (some .ret) W3 hk3
    exact ⟨_,_,hr,hkk,.inr ⟨rfl,.ret,hIx _ _ _ _ hi3 hb4,hl4,hk4⟩⟩
   | exit id =>
    obtain ⟨hk3,hi3⟩ := hp
    obtain ⟨hr,hb4,hl4,hk4,hkk⟩ := fin (some (.exit id)) W3 hk3
    exact ⟨_,_,hr,hkk,.inr ⟨rfl,.exit id,hIx _ _ _ _ hi3 hb4,hl4,hk4⟩⟩
   | goto t =>
    obtain ⟨hk3,hi3⟩ := hp
    obtain ⟨hr,hb4,hl4,hk4,hkk⟩ := fin (some (.goto t)) W3 hk3
    exact ⟨_,_,hr,hkk,.inr ⟨rfl,.goto t,hIx _ _ _ _ hi3 hb4,hl4,hk4⟩⟩
   | panic ch => exact hp.elim
   | outgrown => exact hp.elim
  | exit id => exact hq.elim
  | goto t => exact hq.elim
  | ret => exact hq.elim
  | panic ch => exact hq.elim
  | outgrown => exact hq.elim
 ·-- behind the iterator
  rintro e W2 ⟨⟨v,rfl⟩,(⟨xs,hS,hi,hl,hk⟩ | ⟨pre,hSp,c,hi,hl,hk⟩)⟩
  ·exact ⟨none,_,by have := run_endLoop (P := P) hl (by rw [hrec];simp);rw [hrec] at this;exact this,hdone _ xs _ (Nat.le_refl _) hS (hI _ _ _ hi (keeps_put.mono (by simp))) ((World.putObj_heap_other (by omega)).trans hk)⟩
  ·exact ⟨some c,_,by have := run_endLoop (P := P) hl (by rw [hrec];simp);rw [hrec] at this;exact this,hstop _ c pre _ (Nat.le_refl _) hSp (hIx _ _ _ _ hi (keeps_put.mono (by simp))) ((World.putObj_heap_other (by omega)).trans hk)⟩

theorem range_PZ0 {α : Type} {P : Program} {g : Operand} {ps : Array Tmp} {assign body : Code} {Q : Exit → Act → World → Prop} {a : Act} {w : World}
  {gf : Nat} {lb : Array Value} (hg : a.eval g = .func (.func gf) #[] lb) (eg : ∀ args w,(callFunc gf args).run P w = .ok (.enter gf args) w)
  {encs : α → Array Value} {X : List Nat} {Fx : World → Prop} {S Sp : List α → Prop} (hseq : SeqZ P gf lb encs X Fx S Sp w)
  (hX : ∀ k ∈ X,k < w.heap.size) (hps : ∀ x,(encs x).size = ps.size)
  (I : List α → World → Prop) (Ix : Code → List α → World → Prop) (hI : ∀ s A B,I s A → Keeps A B [w.heap.size,w.heap.size + 1] → I s B) (hIx : ∀ c s A B,Ix c s A → Keeps A B [w.heap.size,w.heap.size + 1] → Ix c s B) (h0 : I [] w)
  (hround : ∀ (l : Nat) (pre : List α) (x : α) (W : World),l = w.heap.size + 1 → l < W.heap.size → W.heap[w.heap.size]? = some (.deferred (some [])) → Fx W → I pre W → Sp (pre ++ [x]) →
   assign.wpIn (Fence.wide.inRound l) 9 P (Exit.then (fun a' W' => SameAt (X ++ [w.heap.size,w.heap.size + 1]) W W' ∧ ∀ W2,Turned l W' W2 → body.wpIn (Fence.wide.inRound l) 9 P (postY (X ++ [w.heap.size,w.heap.size + 1]) I Ix (pre ++ [x]) W2) a' W2) (fun _ _ _ => False))
    { tmps := (ps.zip (encs x)).foldl (fun t (p,v) => t.setIfInBounds p v) a.tmps,defers := [] } W)
  (hdone : ∀ (D : Nat) (xs : List α) (W : World),w.heap.size ≤ D → S xs → I xs W → W.heap[D]? = some (.deferred (some [])) → Q .normal { a with defers := { target := .collected D,args := #[] } :: a.defers } W)
  (hstop : ∀ (D : Nat) (c : Code) (pre : List α) (W : World),w.heap.size ≤ D → Sp pre → Ix c pre W → W.heap[D]? = some (.deferred (some [])) → c.wp P Q { a with defers := { target := .collected D,args := #[] } :: a.defers } W) :
  (Code.rangeFunc g ps assign body).wp P Q a w :=
 (wpIn_wide (n := 9)).1 (range_BZ hg eg hseq hX hps I Ix hI hIx h0 hround hdone (fun D c pre W h1 h2 h3 h4 => wpIn_wide.2 (hstop D c pre W h1 h2 h3 h4)))

theorem range_PZ {α : Type} {P : Program} {g : Operand} {ps : Array Tmp} {assign body : Code} {Q : Exit → Act → World → Prop} {a : Act} {w : World}
  {gf : Nat} {lb : Array Value} (hg : a.eval g = .func (.func gf) #[] lb) (eg : ∀ args w,(callFunc gf args).run P w = .ok (.enter gf args) w)
  {encs : α → Array Value} {X : List Nat} {Fx : World → Prop} {S Sp : List α → Prop} (hseq : SeqZ P gf lb encs X Fx S Sp w)
  (hX : ∀ k ∈ X,k < w.heap.size) (hps : ∀ x,(encs x).size = ps.size) (id : Nat)
  (I Ix : List α → World → Prop) (F : World → Prop) (hI : ∀ s A B,I s A → Keeps A B [w.heap.size,w.heap.size + 1] → I s B) (hIx : ∀ s A B,Ix s A → Keeps A B [w.heap.size,w.heap.size + 1] → Ix s B) (h0 : I [] w)
  (hround : ∀ (l : Nat) (pre : List α) (x : α) (W : World),l = w.heap.size + 1 → l < W.heap.size → W.heap[w.heap.size]? = some (.deferred (some [])) → Fx W → I pre W → Sp (pre ++ [x]) →
   assign.wpIn (Fence.wide.inRound l) 9 P (Exit.then (fun a' W' => SameAt (X ++ [w.heap.size,w.heap.size + 1]) W W' ∧ ∀ W2,Turned l W' W2 → body.wpIn (Fence.wide.inRound l) 9 P (postY (X ++ [w.heap.size,w.heap.size + 1]) I (fun c s A => c = .exit id ∧ Ix s A) (pre ++ [x]) W2) a' W2) (fun _ _ _ => False))
    { tmps := (ps.zip (encs x)).foldl (fun t (p,v) => t.setIfInBounds p v) a.tmps,defers := [] } W)
  (hdone : ∀ (xs : List α) (W : World),S xs → I xs W → F W) (hstop : ∀ (pre : List α) (W : World),Sp pre → Ix pre W → F W)
  (hex : ∀ a' W,Q .normal a' W → Q (.exit id) a' W)
  (hrest : ∀ (D : Nat) (W : World),w.heap.size ≤ D → W.heap[D]? = some (.deferred (some [])) → F W → Q .normal { a with defers := { target := .collected D,args := #[] } :: a.defers } W) :
  (Code.rangeFunc g ps assign body).wp P Q a w :=
 range_PZ0 hg eg hseq hX hps I (fun c s A => c = .exit id ∧ Ix s A) hI (fun c s A B h hb => ⟨h.1,hIx s A B h.2 hb⟩) h0 hround
  (fun D xs W hD hS hi hK => hrest D W hD hK (hdone xs W hS hi))
  (fun D c pre W hD hS ⟨hc,hi⟩ hK => by subst hc;exact wp_exit (hex _ _ (hrest D W hD hK (hstop pre W hS hi))))
end

section
open Go.RowKit

attribute [local go_sem] Oper.semAt_some

abbrev encBN (x : Nat × Int) : Array Value := #[.int .i64 (x.1 : Int),.int .i64 x.2]
def bacF (l : List Int) (j : Nat) : Nat × Int := (l.length - 1 - j,(l[l.length - 1 - j]?).getD 0)
def blkOf : Value → List Nat
 | .slice (some a) n _ => if 0 < n then [a.block] else []
 | _ => []

theorem RdI.sameB {k : IntKind} {w w' : World} {v : Value} {l : List Int} (h : RdI k w v l) (hs : SameAt (blkOf v) w w') : RdI k w' v l := by
 obtain ⟨a,n,c,rfl,h1,h2,h3⟩ := h.form
 refine ⟨a,n,c,rfl,h1,h2,fun h0 => ?_⟩
 obtain ⟨h4,b,o,rfl,h5,h6⟩ := h3 h0
 have hb : w'.heap[b]? = w.heap[b]? := hs b (by simp [blkOf,h0])
 refine ⟨h4,b,o,rfl,?_,fun i x hx => ?_⟩
 ·rw [Array.getElem?_eq_getElem h5] at hb
  exact (Array.getElem?_eq_some_iff.1 hb).1
 ·exact (World.cell?_of_block (a := ⟨b,o + i,none⟩) hb).trans (h6 i x hx)

set_option maxHeartbeats 2000000 in
theorem backZ (Bs : Nat) (v : Value) (l : List Int) (w : World) (hBs : Blk w Bs #[v] 25) (hr : RdI .i64 w v l) (hn : l.length ≤ 1000000) :
  SeqZ Tryz.prog 217 #[.pointer (some ⟨Bs,0,none⟩)] encBN ([Bs] ++ blkOf v) (fun _ => True)
   (fun ys => ys = upto (bacF l) l.length) (fun pre => pre <+: upto (bacF l) l.length) w := by
 intro lo J Jx W hW hJ hJx hY h0
 have hBs' : Blk W Bs #[v] 25 := (hW Bs (by simp)).trans hBs
 have hr' := hr.sameB (hW.mono (fun k hk => List.mem_append.2 (.inr hk)))
 obtain ⟨a,n,c,rfl,hnl,-⟩ := hr.form
 have HB := Lib.hid hBs'
 have HR := Lib.hid hr'
 have HN := Lib.hid hnl
 have HY := Lib.hid hY
 have hn' : n ≤ 1000000 := by omega
 obtain ⟨c0,-⟩ := hBs'.one
 have hwr : wrap64 ((n : Int) - 1) = (n : Int) - 1 := IntWalk.wrap64_in _ ⟨by omega,by omega⟩
 clear hBs hr hBs' hr' hnl hY hn hJ hJx hW
 refine callsIn_of_wp Tryz.func217 rfl trivial ?_ rfl
 simp only [Tryz.ntmps217,List.size_toArray,List.length_cons,List.length_nil,Nat.reduceAdd,Nat.reduceSub,Array.replicate_succ,Array.replicate_zero,List.push_toArray,List.append_toArray,List.nil_append,List.cons_append]
 gi_wp2
 gi_loopw [3] (fun i wr => ∃ k : Nat,k ≤ n ∧ i = .int .i64 ((n : Int) - 1 - (k : Int)) ∧ Hid (J (upto (bacF l) k) wr) ∧ Hid (SameAt ([Bs] ++ blkOf (.slice a n c)) W wr))
  (fun i _ => ((intOf i) + 1).toNat)
 case atStart => exact ⟨0,Nat.zero_le _,by simp,h0,SameAt.refl _ _⟩
 case round =>
  obtain ⟨k,hk,rfl,hJs,hs⟩ := hrel
  have b1 : Blk wr Bs #[.slice a n c] 25 := (hs.out Bs (by simp)).trans HB.out
  have r1 := HR.out.sameB (hs.out.mono (fun k hk => List.mem_append.2 (.inr hk)))
  obtain ⟨d0,-⟩ := b1.one
  by_cases hlt : k < n
  ·obtain ⟨q,hq⟩ : ∃ q,q = n - 1 - k := ⟨_,rfl⟩
   have hqi : (n : Int) - 1 - (k : Int) = (q : Int) := by omega
   obtain ⟨x,hx⟩ : ∃ x,l[q]? = some x := ⟨_,List.getElem?_eq_getElem (by have := HN.out;omega)⟩
   obtain ⟨b,o,rfl,hb,e0⟩ := r1.at hx
   have hcap := r1.cap
   have hi : bacF l k = (q,x) := by
    have : l.length - 1 - k = q := by have := HN.out;omega
    simp [bacF,this,hx]
   have hyy := HY.out (upto (bacF l) k) (bacF l k) wr hJs.out trivial (by rw [← upto_succ];exact upto_prefix _ (by have := HN.out;omega))
   rw [hi] at hyy
   obtain ⟨fn,tmps,assign,body,hy,hR⟩ := hyy
   dsimp only [encBN] at hy
   have hqn : (q : Int) < (n : Int) := by omega
   have hw1 : wrap64 ((q : Int) - 1) = (q : Int) - 1 := IntWalk.wrap64_in _ ⟨by omega,by omega⟩
   have HI := Lib.hid hi
   have HQ := Lib.hid hq
   rw [hqi]
   clear hx hi b1 r1 hq hqi
   gi_wp2
   refine (round_any hR).mono ?_
   rintro e W3 ⟨hk3,(⟨rfl,hJ3⟩ | ⟨rfl,hJx3⟩)⟩
   ·gi_wp2
    refine ⟨⟨k + 1,by omega,?_,?_,hs.out.trans hk3⟩,?_⟩
    ·congr 1;have := HQ.out;omega
    ·show J _ _
     rw [upto_succ,HI.out];exact hJ3
    ·simp only [intOf];omega
   ·gi_wp2
    refine bodyPost_ret (v := .tuple #[]) (by simp [results,Tryz.results217]) rfl ⟨⟨_,rfl⟩,.inr ⟨_,?_,hJx3⟩⟩
    rw [← HI.out,← upto_succ]
    exact upto_prefix _ (by have := HN.out;omega)
  ·gi_wp2
   go_end0
   exact ⟨⟨_,rfl⟩,.inl ⟨_,by rw [show k = l.length by have := HN.out;omega],hJs.out⟩⟩
end

section
open Go.RowKit

def notDefer : Op → Bool
 | .defer _ => false
 | _ => true
theorem notDefer_ne {o : Op} (h : notDefer o = true) : ∀ c,o ≠ .defer c := fun c e => by subst e;cases h
end

section
open Go.RowKit

theorem rows_in {n : Nat} {P : Program} {l : Nat} {row : String} {args : Array Value} {w : World} {R : Value → World → Prop} (h : Rows P row args w R) : RowsIn (Fence.wide.inRound l) n P row args w R := fun c cs _ => by
 obtain ⟨v,w',r,s⟩ := h c cs
 exact ⟨v,w',r,stepsIn_wide.2 s⟩

theorem operIn_of_wp {l n : Nat} {P : Program} {o : Oper} {a : Act} {w : World} {K : Act → World → Prop} {Q : Exit → Act → World → Prop} (hd : notDefer o.op = true) (h : o.wp P a w K Q) : o.wpIn (Fence.wide.inRound l) n P a w K Q := by
 unfold Oper.wp at h
 unfold Oper.wpIn
 refine ⟨fun _ _ => trivial,?_⟩
 rw [Fence.inRound_round,Oper.semAt_some l _ _ (notDefer_ne hd)]
 generalize (execOp a.eval o).run P w = r at *
 cases r with
 | ok x w' =>
  cases x <;> simp only [Oper.upon] at h <;> simp only [Oper.uponIn]
  case value u => exact h
  case skip => exact h
  case defer d => exact h
  case enter f args => exact ⟨fun h => by simp [Fence.wide] at h,calls_in h⟩
  case row row args => exact ⟨fun h => by simp [Fence.wide] at h,rows_in h⟩
 | halt x w' =>
  cases x <;> simp only [Oper.upon] at h <;> simp only [Oper.uponIn]
  case panic u => exact h

theorem wpOpIn_of_wpOp {l n i : Nat} {P : Program} {ops : Array Oper} {K : Act → World → Prop} {Q : Exit → Act → World → Prop} {a : Act} {w : World} (hd : ∀ (i : Nat) (o : Oper),ops[i]? = some o → notDefer o.op = true) (hQ : ∀ a w,¬ Q .outgrown a w)
  (h : wpOp P ops Q i K a w) : wpOpIn (Fence.wide.inRound l) n P ops Q i K a w := by
 unfold wpOp at h
 unfold wpOpIn
 split
 ·rename_i ho;simp only [ho] at h;exact h
 ·rename_i o ho
  simp only [ho] at h
  split
  ·rename_i hw
   simp only [hw,if_true] at h
   rcases h with h | ⟨-,a',w',h⟩
   ·exact operIn_of_wp (hd i o ho) h
   ·exact (hQ _ _ h).elim
  ·rename_i hw;simp only [hw] at h;exact ⟨fun _ _ => trivial,h⟩

theorem wpAnyIn_of_held {l n : Nat} {P : Program} {ops : Array Oper} {md : Region.Mode} {S : World → Prop} {Q : Exit → Act → World → Prop} (hd : ∀ (i : Nat) (o : Oper),ops[i]? = some o → notDefer o.op = true) (hQ : ∀ a w,¬ Q .outgrown a w) : ∀ (fuel : Nat) (listed : Array Bool) (a : Act) (w : World),
  wpAnyH P md ops Q S fuel listed a w → wpAnyIn (Fence.wide.inRound l) n P md ops Q fuel listed a w
 | 0,_,_,_,h => h
 | fuel + 1,_,_,_,h => ⟨h.1,fun i hi => wpOpIn_mono (fun a' w' h' => wpAnyIn_of_held hd hQ fuel _ a' w' h'.2) (wpOpIn_of_wpOp hd hQ (h.2 i hi))⟩

theorem region_heldR {l n : Nat} {P : Program} {id : Nat} {Q : Exit → Act → World → Prop} {a : Act} {w : World} {os : List Oper} {S : World → Prop} (hm : P.follows .mixedOrders = true) (hd : os.all (fun o : Oper => notDefer o.op) = true) (hQ : ∀ a w,¬ Q .outgrown a w) (hS : S w.drew)
  (h : S w.drew → wpAnyH P .any os.toArray Q S os.toArray.size (Array.replicate os.toArray.size false) a w.drew) : (Code.region id os.toArray true).wpIn (Fence.wide.inRound l) n P Q a w :=
 wpIn_region_any hm (wpAnyIn_of_held (fun i o ho => by
  simp only [List.getElem?_toArray] at ho
  exact List.all_eq_true.1 hd o (List.mem_of_getElem? ho)) hQ _ _ _ _ (h hS))
end

section
open Go.RowKit

set_option maxHeartbeats 600000 in
theorem ccaught_chk (pe : Nat) (n : Int) (z : Value) (te : TypeId) (older : List PanicEntry) (w : World) (he : Blk w pe #[z] te) :
  CallsD Tryz.prog 70 #[.pointer (some ⟨pe,0,none⟩),.func (.func 71) #[] #[]] (.panicking (raisedBy n false :: older)) w fun e u' w' =>
   e = .returned (.tuple #[]) ∧ u' = .panicking (raisedBy n true :: older) ∧ w' = w.setCell ⟨pe,0,none⟩ (.int .i64 n) := by
 obtain ⟨c0,f0⟩ := he.one
 have hta : ∀ w : World,(Instr.typeAssert (.iface 33 (.int .i64 n)) 20 33 true).run Tryz.prog w = .ok (.tuple #[.int .i64 n,.bool true]) w := fun _ => by kernel_rfl
 refine callsD_of_wpS Tryz.func70 rfl fun c₀ cs hu => ?_
 simp only [Tryz.ntmps70,List.size_toArray,List.length_cons,List.length_nil,Nat.reduceAdd,Nat.reduceSub,Array.replicate_succ,Array.replicate_zero,List.push_toArray,List.append_toArray,List.nil_append,List.cons_append]
 apply wpS_seq
 apply wpS_region
 simp [wpOpsS,go_sem,recoverD,hu,Exit.thenS,raisedBy]
 refine wpS_of_wp ?_
 have HU := Lib.hid hu
 clear hu
 go_wp2
 go_end0
 go_wp2
 refine ⟨rfl,.panicking (raisedBy n true :: older),?_,.tuple #[],by simp [results,Tryz.results70],rfl,rfl,rfl⟩
 simp [raisedBy]

set_option maxHeartbeats 2000000 in
theorem ccheck_any (v : Value) (l : List Int) (w : World) (hv : RdI .i64 w v l) (hn : l.length ≤ 1000000) :
  Calls Tryz.prog 37 #[v] w fun e w' => e = .returned (.int .i64 (if treeL l then 0 else 12)) ∧ Keeps w w' [] := by
 cases ht : treeL l with
 | false =>
  have HO := Lib.hid (fun w' (k : Keeps w w' []) => cof_no v l w' (hv.keeps k) hn ht)
  obtain ⟨A0,n,cp0,rfl,hnl,-⟩ := hv.form
  clear hv hnl ht
  go_enter_defers Tryz.func37,Tryz.ntmps37
  go_wp2_with fail
  have k0 : Keeps w (w.alloc (.cells #[.int .i64 0] 33)) [] := (Keeps.refl w []).alloc _
  have be := Blk.new w #[.int .i64 0] 33
  refine (HO.out _ k0).mono ?_
  rintro e w1 ⟨rfl,k1⟩
  replace be := be.keeps k1 (by simp)
  replace k0 := k0.then k1
  clear k1
  obtain ⟨e0,e1⟩ := be.one
  go_wp2_with fail
  refine leaves_cons (f := 70) (args := #[.pointer (some ⟨w.heap.size,0,none⟩),.func (.func 71) #[] #[]]) (by simp) (by simp [go_sem]) ?_
  refine (ccaught_chk _ 12 _ _ [] _ be).mono ?_
  rintro e u' w'' ⟨rfl,rfl,rfl⟩
  refine ⟨.int .i64 12,by simp only [results,Tryz.results37];go_simp,?_⟩
  refine ⟨rfl,?_⟩
  exact Keeps.setCell' (.inl (by dsimp only;omega)) k0
 | true =>
  obtain ⟨A0,n,cp0,rfl,hnl,-⟩ := hv.form
  have HO := Lib.hid (fun w' (k : Keeps w w' []) => cof_yes A0 n cp0 l w' (hv.keeps k) hn ht)
  clear hv hnl ht
  go_enter_defers Tryz.func37,Tryz.ntmps37
  go_wp2_with fail
  have k0 : Keeps w (w.alloc (.cells #[.int .i64 0] 33)) [] := (Keeps.refl w []).alloc _
  have be := Blk.new w #[.int .i64 0] 33
  refine (HO.out _ k0).mono ?_
  rintro e w1 ⟨rfl,k1⟩
  replace be := be.keeps k1 (by simp)
  replace k0 := k0.then k1
  clear k1
  obtain ⟨e0,e1⟩ := be.one
  go_wp2_with fail
  refine leaves_cons (f := 70) (args := #[.pointer (some ⟨w.heap.size,0,none⟩),.func (.func 71) #[] #[]]) (by simp) (by simp [go_sem]) ?_
  refine (ccaught_idle _ _ _).mono ?_
  rintro e u' w'' ⟨rfl,rfl,rfl⟩
  refine ⟨.int .i64 0,by simp only [results,Tryz.results37];go_simp,?_⟩
  refine ⟨rfl,?_⟩
  exact Keeps.setCell' (.inl (by dsimp only;omega)) k0
end

section
open Go.ChangeShapes Go.WideShapes Go.ChangeAt Go.RowKit

theorem open_numsC {H : Type} {enc : TypeId × Value → H} {P : Program} {w : World} {ts e : TypeId} {k : IntKind} {v : Value} {fuel : Nat} {x : DataW H × List MemPlace} (hts : P.underlying ts = some (.slice e)) (he : P.underlying e = some (.int k)) (hE : P.cellsOf e = 1)
  (hf : DataW.trod enc P w 0 (fun _ => true) true fuel ts [v] = some x) :
  ∃ l : List Int,RdI k w v l ∧ (∀ x ∈ l,(Lit.int k x).wf = true) := by
 rcases Go.Deep.open_slice1 hts hE hf with ⟨hcs,hx⟩ | ⟨a,len,cap,m,n,V,D,Pl,hcs,hb,hl,hm,hmm,hx,hel⟩
 ·simp at hcs
  subst hcs
  exact ⟨[],.nil,by simp⟩
 ·simp at hcs
  subst hcs
  have hmc : len ≤ m := by rw [hmm];simp;exact hl
  have hread : ∀ i,i < len → ∃ x : Int,w.cell? (a.add i) = some (.int k x) ∧ (Lit.int k x).wf = true := by
   intro i hi
   obtain ⟨hc',ht'⟩ := hel i (by omega)
   obtain ⟨x,ex,_,wx⟩ := DataW.trod_int he ht'
   simp at ex
   exact ⟨x,by rw [hc',ex],wx⟩
  have hlist : ∀ j,j ≤ len → ∃ l : List Int,l.length = j ∧ (∀ i x,l[i]? = some x → w.cell? (a.add i) = some (.int k x)) ∧ (∀ x ∈ l,(Lit.int k x).wf = true) := by
   intro j
   induction j with
   | zero => intro _;exact ⟨[],rfl,by simp,by simp⟩
   | succ j ih =>
    intro hj
    obtain ⟨l,h1,h2,h3⟩ := ih (by omega)
    obtain ⟨x,hx1,hx2⟩ := hread j (by omega)
    refine ⟨l ++ [x],by simp [h1],?_,?_⟩
    ·intro i y hy
     by_cases hij : i < l.length
     ·rw [List.getElem?_append_left hij] at hy
      exact h2 i y hy
     ·have hlt := (List.getElem?_eq_some_iff.1 hy).1
      simp at hlt
      have : i = j := by omega
      subst this
      rw [List.getElem?_append_right (by omega)] at hy
      simp [h1] at hy
      subst hy
      exact hx1
    ·intro y hy
     simp at hy
     rcases hy with hy | rfl
     ·exact h3 y hy
     ·exact hx2
  obtain ⟨l,hl1,hl2,hl3⟩ := hlist len (Nat.le_refl _)
  refine ⟨l,⟨_,_,_,rfl,hl1.symm,(fun h => by cases h),fun h0 => ?_⟩,hl3⟩
  obtain ⟨x,hx⟩ : ∃ x,l[0]? = some x := ⟨_,List.getElem?_eq_getElem (by omega)⟩
  have hc0 := hl2 0 x hx
  have e0 : a.add 0 = a := by simp [Addr.add]
  rw [e0] at hc0
  have hsp : a.spot = none := by
   cases hsp : a.spot with
   | none => rfl
   | some q =>
    simp [World.cell?] at hc0
    split at hc0 <;> simp [hsp] at hc0
  have ha : a = ⟨a.block,a.off,none⟩ := by cases a;simp_all
  refine ⟨hl,a.block,a.off,by rw [← ha],World.block_lt_of_cell? w a hc0,fun i y hy => ?_⟩
  have h1 := hl2 i y hy
  have e1 : a.add i = ⟨a.block,a.off + i,none⟩ := by rw [ha];simp [Addr.add]
  rw [e1] at h1
  exact h1
end

section
open Go.ChangeShapes Go.WideShapes Go.ChangeAt Go.RowKit Go.Joins

section
variable {H : Type} {enc : TypeId × Value → H} {P : Program} {w : World} {base : Nat} {spare : Nat → Bool} {held : Bool}

theorem trod_arr3 {t e : TypeId} {fuel : Nat} {cs : List Value} {x : DataW H × List MemPlace} (ht : P.underlying t = some (.array 3 e)) (he : P.underlying e = some (.int .i64)) (hC : P.cellsOf t = 3) (hE : P.cellsOf e = 1)
  (h : DataW.trod enc P w base spare held fuel t cs = some x) :
  ∃ a b c : Int,cs = [.int .i64 a,.int .i64 b,.int .i64 c] ∧ (Lit.int .i64 a).wf = true ∧ (Lit.int .i64 b).wf = true ∧ (Lit.int .i64 c).wf = true := by
 obtain ⟨xs,m,_,_,hl,hn,hx⟩ := DataW.trod_array ht h
 rw [hE] at hx
 have hlen : cs.length = 3 := by rw [hl,hC]
 have h0 := hx 0 (by omega)
 have h1 := hx 1 (by omega)
 have h2 := hx 2 (by omega)
 match cs,hlen with
 | [c0,c1,c2],_ =>
  match xs,hn with
  | [x0,x1,x2],_ =>
   obtain ⟨a,ea,_,wa⟩ := DataW.trod_int he h0
   obtain ⟨b,eb,_,wb⟩ := DataW.trod_int he h1
   obtain ⟨c,ec,_,wc⟩ := DataW.trod_int he h2
   simp at ea eb ec
   exact ⟨a,b,c,by rw [ea,eb,ec],wa,wb,wc⟩

end
end

end Go.Proofs.YtcmagccfagijlaaGreat
