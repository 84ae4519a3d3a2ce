/-
  The reference of spread tables: Step; what lies at the places, in plain words.
  Walks over the reference of spread tables: Of.
  The cells of a table in plain words. (No walk is done here.)
  Walks over package num: Cursor.Peek. (Printed by mkPk.py.)
  Walks over package desc: Decode. (Printed by mkRv.py.)
  Walks over package cells: Build. (Printed by mkCe.py.)
  Walks over the reference of cells: Of.
  Walks over package cells: Next.
  Walks over package bitin: the backward reader: Skip, Take, Left. (Printed by mkBb.py.)
-/
import Derived.Test.YtcmagccfagijlaaGreatQ11
import Derived.Test.YtcmagccfagijlaaGreatQ2
import Derived.Test.YtcmagccfagijlaaGreatQ3
import Derived.Test.YtcmagccfagijlaaGreatQ6
import Derived.Test.YtcmagccfagijlaaGreatQ1
import Derived.Test.YtcmagccfagijlaaGreatQ10
import Derived.BigQuiet
import Derived.Test.YtcmagccfagijlaaGreatQ8
namespace Go.Proofs.YtcmagccfagijlaaGreat
set_option linter.unusedVariables false
set_option linter.unusedSimpArgs false
set_option linter.unusedSectionVars false
set_option maxRecDepth 100000
section
open Go.RowKit
end

section
open Go.RowKit
end

section
open Go.RowKit

def cellX (g : Nat) (norm : List Int) (p : Nat) : Nat := (stN (norm.getD (placeN g norm p) 0)).toNat + ((placesL g norm).take p).count (placeN g norm p)
def celP (g : Nat) (norm : List Int) (p : Nat) : Cel := (placeN g norm p,g - (cellX g norm p).log2,cellX g norm p * 2 ^ (g - (cellX g norm p).log2) - 2 ^ g)
def cellsL (g : Nat) (norm : List Int) (k : Nat) : List Cel := (List.range k).map (celP g norm)
theorem cellsL_succ (g : Nat) (norm : List Int) (k : Nat) : cellsL g norm (k + 1) = cellsL g norm k ++ [celP g norm k] := by simp [cellsL,List.range_succ]
theorem cellsL_len (g : Nat) (norm : List Int) (k : Nat) : (cellsL g norm k).length = k := by simp [cellsL]
theorem cellsL_get {g k p : Nat} {norm : List Int} (h : p < k) : (cellsL g norm k)[p]? = some (celP g norm p) := by simp [cellsL,h]

theorem getD_mem {L : List Nat} {j : Nat} (h : j < L.length) : L.getD j 0 ∈ L := by
 rw [List.getD_eq_getElem?_getD,List.getElem?_eq_getElem h]
 exact List.getElem_mem _
theorem placeN_pos {g p : Nat} {norm : List Int} (h : TblOk g norm) (hp : p < 2 ^ g) : 1 ≤ stN (norm.getD (placeN g norm p) 0) := by
 have hl := h.lens
 unfold placeN
 split
 ·have hm := getD_mem (L := lowsL norm) (j := 2 ^ g - 1 - p) (by omega)
  generalize (lowsL norm).getD (2 ^ g - 1 - p) 0 = s at *
  have h1 := (List.mem_filter.1 hm).2
  have h2 : norm.getD s 0 = -1 := by simpa using h1
  rw [h2]
  decide
 ·have hfl := free_len (g := g) (top := 2 ^ g - (lowsL norm).length) h.g9 (by omega)
  have hmem : p ∈ freeN (2 ^ g) (2 ^ g - (lowsL norm).length) (2 ^ g) := free_all h.g9 (by omega) (by omega)
  have hidx : (freeN (2 ^ g) (2 ^ g - (lowsL norm).length) (2 ^ g)).idxOf p < (othersL norm).length := by
   have := List.idxOf_lt_length_of_mem hmem
   omega
  have hm := getD_mem hidx
  generalize (othersL norm).getD ((freeN (2 ^ g) (2 ^ g - (lowsL norm).length) (2 ^ g)).idxOf p) 0 = s at *
  obtain ⟨i,hi,hs⟩ := List.mem_flatMap.1 hm
  obtain ⟨h1,rfl⟩ := List.mem_replicate.1 hs
  unfold stN
  split <;> omega
theorem placeN_norm {g p : Nat} {norm : List Int} (h : TblOk g norm) : ∃ x,norm[placeN g norm p]? = some x ∧ norm.getD (placeN g norm p) 0 = x := by
 have h1 := placeN_lt (p := p) h.g9 h.pos
 exact ⟨_,List.getElem?_eq_getElem h1,by rw [List.getD_eq_getElem?_getD,List.getElem?_eq_getElem h1];rfl⟩
theorem stN_top {g s : Nat} {x : Int} {norm : List Int} (h : TblOk g norm) (hx : norm[s]? = some x) : stN x ≤ ((2 ^ g : Nat) : Int) := by
 have h1 := h.low
 have h2 := sumN_prefix (k := s + 1) h1
 rw [sumN_take hx,h.sum] at h2
 have h3 := sumN_nonneg (l := norm.take s) (fun n hn => h1 n (List.mem_of_mem_take hn))
 omega
theorem cellX_pos {g p : Nat} {norm : List Int} (h : TblOk g norm) (hp : p < 2 ^ g) : 1 ≤ cellX g norm p ∧ cellX g norm p < 2 * 2 ^ g := by
 obtain ⟨x,hx,hg⟩ := placeN_norm (p := p) h
 have h1 := placeN_pos h hp
 have h2 := stN_top h hx
 have h3 : ((placesL g norm).take p).count (placeN g norm p) ≤ p := Nat.le_trans List.count_le_length (List.length_take_le _ _)
 unfold cellX
 rw [hg] at h1 ⊢
 omega
theorem celP_in {g p v : Nat} {norm : List Int} (h : TblOk g norm) (hp : p < 2 ^ g) (hv : v < 2 ^ (celP g norm p).2.1) : (celP g norm p).2.2 + v < 2 ^ g ∧ (celP g norm p).2.1 ≤ g := by
 obtain ⟨h1,h2⟩ := cellX_pos h hp
 obtain ⟨h3,h4,h5⟩ := cell_in h1 h2
 unfold celP at hv ⊢
 simp only at hv ⊢
 rw [Nat.add_mul,Nat.one_mul] at h5
 omega

def hadF (l : List Nat) : Int → Option Int := fun q => if 0 ≤ q ∧ q.toNat ∈ l then some ((l.count q.toNat : Nat) : Int) else none
theorem hadF_nil : hadF [] = fun _ => none := by
 funext q
 simp [hadF]
theorem hadF_get (l : List Nat) (s : Nat) : (hadF l (s : Int)).getD 0 = ((l.count s : Nat) : Int) := by
 unfold hadF
 by_cases h : s ∈ l
 ·rw [if_pos ⟨by omega,by simpa using h⟩];simp
 ·rw [if_neg (by rintro ⟨-,h2⟩;exact h (by simpa using h2)),List.count_eq_zero.2 h];rfl
theorem hadF_snoc (l : List Nat) (s : Nat) : updI (hadF l) (s : Int) (((l.count s : Nat) : Int) + 1) = hadF (l ++ [s]) := by
 funext q
 unfold updI hadF
 by_cases h : q = (s : Int)
 ·subst h
  rw [if_pos rfl,if_pos ⟨by omega,by simp⟩]
  simp [List.count_append]
 ·rw [if_neg h]
  by_cases h0 : 0 ≤ q
  ·have hne : q.toNat ≠ s := by omega
   by_cases h1 : q.toNat ∈ l
   ·rw [if_pos ⟨h0,h1⟩,if_pos ⟨h0,List.mem_append.2 (.inl h1)⟩,List.count_append,List.count_eq_zero.2 (show q.toNat ∉ [s] by simpa using hne)]
    simp
   ·rw [if_neg (fun h2 => h1 h2.2),if_neg]
    rintro ⟨-,h2⟩
    rcases List.mem_append.1 h2 with h3 | h3
    ·exact h1 h3
    ·exact hne (List.mem_singleton.1 h3)
  ·rw [if_neg (fun h2 => h0 h2.1),if_neg (fun h2 => h0 h2.1)]

def rowC (c : Cel) : List Value := [.int .i64 (c.1 : Int),.int .i64 (c.2.1 : Int),.int .i64 (c.2.2 : Int)]
theorem rowC_len (c : Cel) : (rowC c).length = 3 := rfl
theorem rowC_one (c : Cel) : ∀ u ∈ rowC c,u.oneCell' = true := by
 intro u hu
 simp [rowC] at hu
 rcases hu with rfl | rfl | rfl <;> rfl
end

section
open Go.RowKit

set_option maxHeartbeats 4000000 in
theorem peek_any (p k : Nat) (v : Value) (B : List Int) (w : World) (hc : Cur w p v B k) :
  Calls Tryz.prog 117 #[.pointer (some ⟨p,0,none⟩),.int .i64 1024] w fun e w' => ∃ v',e = .returned v' ∧ OwnB w' w.heap.size v' ((B.drop k).take 1024) ∧ Keeps w w' [] := by
 have HL := Lib.hid (left_any p k v B w hc)
 have hlen := hc.len
 have hle := hc.le
 obtain ⟨c0,c1,-⟩ := hc.cells
 obtain ⟨D,hD⟩ : ∃ D : Int,(B.length : Int) - (k : Int) = D := ⟨_,rfl⟩
 rw [hD] at HL
 obtain ⟨M,hM⟩ : ∃ M : Int,min (max 1024 0) D = M := ⟨_,rfl⟩
 obtain ⟨m,hm⟩ : ∃ m : Nat,M = (m : Int) := ⟨M.toNat,by omega⟩
 have hml : k + m ≤ B.length := by omega
 have ht : (B.drop k).take 1024 = (B.drop k).take m := by
  by_cases h : 1024 ≤ B.length - k
  ·rw [show m = 1024 by omega]
  ·rw [List.take_of_length_le (by rw [List.length_drop];omega),List.take_of_length_le (by rw [List.length_drop];omega)]
 rw [ht]
 obtain ⟨r,hr0,rr,-⟩ := slice_part hc.rd (i := k) (j := k + m) (by omega) hml
 rw [Nat.add_sub_cancel_left] at rr
 obtain ⟨T,hT⟩ : ∃ T : Int,(k : Int) + M = T := ⟨_,rfl⟩
 have hr : ∀ w,(Instr.slice 22 v (some (.int .i64 (k : Int))) (some (.int .i64 T)) none).run Tryz.prog w = .ok r w := fun w => by
  have := hr0 w
  rw [show T = ((k + m : Nat) : Int) by omega]
  exact this
 have mT : IntKind.i64.wrap T = T := by simp [IntKind.wrap,IntKind.signed,IntKind.bits];omega
 have hll : ((B.drop k).take m).length ≤ 1000000 := by rw [List.length_take,List.length_drop];omega
 generalize (B.drop k).take m = L at *
 have HCL := Lib.hid (fun W' (k' : Keeps w W' []) => cloneb_any r _ W' (rr.keeps k') hll)
 have HC := Lib.hid hc
 obtain ⟨ad,n,c,rfl,-,-⟩ := hc.rd.form
 clear hc rr hr0 hll ht hD hm hml hlen hle
 go_enter Tryz.func117,Tryz.ntmps117
 go_wp2_with fail
 refine HL.out.mono ?_
 rintro e w1 ⟨rfl,q,rfl⟩
 have k1 := (Keeps.refl w []).drewN q
 go_wp2_with fail
 clear c0 c1
 refine wp_region_held_drew (S := (fun w' => w'.cell? ⟨p,0,none⟩ = some (.slice ad n c) ∧ w'.cell? ⟨p,1,none⟩ = some (.int .i64 (k : Int)) ∧ Keeps w w' [])) (by kernel_rfl) ⟨(HC.out.keeps k1.drew).cells.1,(HC.out.keeps k1.drew).cells.2.1,k1.drew⟩ (fun hHeld => ?_)
 refine takeM 0 rfl (by intro w9 hSw;obtain ⟨q0,q1,-⟩ := hSw;go_simp;(try with_reducible rfl)) ?_
 try simp only [Act.put,stA,stZ,stS]
 refine takeM 1 rfl (by intro w9 hSw;obtain ⟨q0,q1,-⟩ := hSw;go_simp;(try with_reducible rfl)) ?_
 try simp only [Act.put,stA,stZ,stS]
 refine takeM 2 rfl (by intro w9 hSw;obtain ⟨q0,q1,-⟩ := hSw;go_simp;(try with_reducible rfl)) ?_
 try simp only [Act.put,stA,stZ,stS]
 refine takeM 3 rfl (by intro w9 hSw;obtain ⟨q0,q1,-⟩ := hSw;go_simp;(try with_reducible rfl)) ?_
 try simp only [Act.put,stA,stZ,stS]
 refine takeM 4 rfl (by intro w9 hSw;obtain ⟨q0,q1,-⟩ := hSw;go_simp;(try with_reducible rfl)) ?_
 try simp only [Act.put,stA,stZ,stS]
 refine takeM 5 rfl (by intro w9 hSw;obtain ⟨q0,q1,-⟩ := hSw;go_simp;(try with_reducible rfl)) ?_
 try simp only [Act.put,stA,stZ,stS]
 refine takeM 6 rfl (by intro w9 hSw;obtain ⟨q0,q1,-⟩ := hSw;go_simp;(try with_reducible rfl)) ?_
 try simp only [Act.put,stA,stZ,stS]
 refine takeM 7 rfl (by intro w9 hSw;obtain ⟨q0,q1,-⟩ := hSw;go_simp;(try with_reducible rfl)) ?_
 try simp only [Act.put,stA,stZ,stS]
 refine takeM 8 rfl (by intro w9 hSw;obtain ⟨q0,q1,-⟩ := hSw;go_simp;(try with_reducible rfl)) ?_
 try simp only [Act.put,stA,stZ,stS]
 refine takeM 9 rfl (by intro w9 hSw;obtain ⟨q0,q1,-⟩ := hSw;go_simp;(try with_reducible rfl)) ?_
 try simp only [Act.put,stA,stZ,stS]
 refine takeM 10 rfl (by intro w9 hSw;obtain ⟨q0,q1,-⟩ := hSw;go_simp;(try with_reducible rfl)) ?_
 try simp only [Act.put,stA,stZ,stS]
 refine takeM 11 rfl (by intro w9 hSw;obtain ⟨q0,q1,-⟩ := hSw;go_simp;(try with_reducible rfl)) ?_
 try simp only [Act.put,stA,stZ,stS]
 refine takeM 12 rfl (by intro w9 hSw;obtain ⟨q0,q1,-⟩ := hSw;go_simp;(try with_reducible rfl)) ?_
 try simp only [Act.put,stA,stZ,stS]
 refine takeM 13 rfl (by intro w9 hSw;obtain ⟨q0,q1,-⟩ := hSw;go_simp;(try with_reducible rfl)) ?_
 try simp only [Act.put,stA,stZ,stS]
 refine takeM 14 rfl (by intro w9 hSw;obtain ⟨q0,q1,-⟩ := hSw;go_simp;(try with_reducible rfl)) ?_
 try simp only [Act.put,stA,stZ,stS]
 refine callL (i := 15) rfl (by kernel_rfl) (fun Kont hK => ?_)
 go_simp
 have KB := hHeld.2.2;refine (HCL.out _ hHeld.2.2).mono ?_;rintro e w3 ⟨v3,rfl,own3,k3⟩;obtain ⟨a3,c3,rfl⟩ := own_form own3
 go_wp2_with fail
 refine hK.out _ _ ?_ (fun hHeld => ?_)
 ·(exact ⟨((HC.out.keeps (hHeld.2.2.then k3)).cells).1,((HC.out.keeps (hHeld.2.2.then k3)).cells).2.1,hHeld.2.2.then k3⟩)
 clear hK Kont
 refine takeM 16 rfl (by intro w9 hSw;clear hSw;go_simp;(try with_reducible rfl)) ?_
 try simp only [Act.put,stA,stZ,stS]
 refine wpAnyH_done (by kernel_rfl) ?_ _
 go_wp2_with fail
 go_ret
 exact ⟨_,rfl,own_base own3 (by have := k3.size;have := KB.size;omega),hHeld.2.2⟩
end

section
open Go.RowKit

theorem step_storeB {P : Program} {ops : Array Oper} {o : Oper} {a : Act} {w : World} {K : Act → World → Prop} {Q : Exit → Act → World → Prop} {E : Prop} (hgd : o.guard = none) (ty : TypeId) (x y : Operand) (ho : o.op = .store ty x y)
  (g : Nat) (cells : Array Value) (hx : a.eval x = .pointer (some ⟨g,0,none⟩)) (hy : a.eval y = .agg cells) (t : TypeId) (old : Array Value) (hb : Blk w g old t) (hi : (P.info? ty).map (·.size) = some cells.size)
  (hold : old.size = cells.size) (h1 : cells.all (·.oneCell') = true) (h : ∀ W,Blk W g cells t → Keeps w W [g] → K (a.put o.dst undef) W) :
  if Region.wanted o (yielded ops a.tmps) = true then Oper.wp P o a w K Q else E := by
 have hw : Region.wanted o (yielded ops a.tmps) = true := by simp [Region.wanted,hgd]
 rw [if_pos hw]
 exact wp_store_row ty x y ho g cells hx hy t old hb hi hold h1 (h _ (setRow_heap w g old cells t (0,0) hb) keeps_setRow)

def descP (D : List Int) (symbols : Nat) (log : Int) : Except Int (Nat × List Int × Nat) :=
 match tabP D symbols log with
 | .error e => .error e
 | .ok (n,l,L2) => if valL (L2.take (L2.length % 8)) = 0 then .ok (n,l,D.length - L2.length / 8) else .error 14

def DescEnd (w : World) (p : Nat) (v : Value) (B : List Int) (k : Nat) (Z : Except Int (Nat × List Int × Nat)) (e : Ending) (w' : World) : Prop :=
 Keeps w w' [p] ∧ match Z with
  | .ok (G,l,m) => ∃ a c,e = .returned (.tuple #[.agg #[.int .i64 (G : Int),.slice a l.length c],.int .i64 0]) ∧ w'.ownsRow w.heap.size 3 1 (.slice a l.length c) l.length (l.map (.int .i64)) ∧ l.length ≤ 1300 ∧ Cur w' p v B (k + m)
  | .error n => n ≠ 0 ∧ e = .returned (.tuple #[.agg #[.int .i64 0,.slice none 0 0],.int .i64 n]) ∧ Cur w' p v B k

theorem bytes_peek {B : List Int} {k m : Nat} (hk : k ≤ B.length) (h : m ≤ ((B.drop k).take 1024).length) : bytesE B k (m : Int) = 0 ∧ bytesK B k (m : Int) = k + m := by
 rw [List.length_take,List.length_drop] at h
 have e : bytesE B k (m : Int) = 0 := by
  unfold bytesE
  rw [if_neg (by omega)]
  by_cases h0 : (B.length : Int) - (k : Int) < (m : Int)
  ·omega
  ·rw [if_neg h0]
 exact ⟨e,by rw [bytesK,if_pos e,Int.toNat_natCast]⟩

set_option maxHeartbeats 2000000 in
theorem ddecode_any (p k symbols : Nat) (log : Int) (v : Value) (B : List Int) (w : World) (hc : Cur w p v B k) (hs : symbols ≤ 256) :
  Calls Tryz.prog 81 #[.pointer (some ⟨p,0,none⟩),.int .i64 symbols,.int .i64 log] w (DescEnd w p v B k (descP ((B.drop k).take 1024) symbols log)) := by
 obtain ⟨D,hD⟩ : ∃ D,(B.drop k).take 1024 = D := ⟨_,rfl⟩
 have HBP := Lib.hid (fun m => bytes_peek (B := B) (k := k) (m := m) hc.le)
 rw [hD] at HBP ⊢
 have hDl : D.length ≤ 1000000 := by rw [← hD,List.length_take];omega
 have hDb : ∀ x ∈ D,0 ≤ x ∧ x ≤ 255 := fun x hx => hc.byte x (List.mem_of_mem_drop (List.mem_of_mem_take (hD ▸ hx)))
 obtain ⟨Z,hZ⟩ : ∃ Z,descP D symbols log = Z := ⟨_,rfl⟩
 rw [hZ]
 unfold descP at hZ
 have HZ := Lib.hid hZ
 clear hZ
 have hlp := hc.old.1
 have HOLD := Lib.hid hc.old.2
 have k0 := (Keeps.refl w []).alloc (.cells #[.int .i64 0,.slice none 0 0] 27)
 have b0 := Blk.new w #[.int .i64 0,.slice none 0 0] 27
 have HP := Lib.hid (peek_any p k v B _ (hc.keeps k0))
 rw [hD] at HP
 have HC := Lib.hid hc
 have HDB := Lib.hid hDb
 have hmin : min (symbols : Int) 256 = (symbols : Int) := by omega
 clear hc hD hDb
 go_enter Tryz.func81,Tryz.ntmps81
 go_wp2_with fail
 refine HP.out.mono ?_
 rintro e w1 ⟨v1,rfl,own1,k1⟩
 have HF := Lib.hid (newFwd_any v1 D w1 (own_reads own1) hDl HDB.out)
 have b1 := b0.keeps k1 (by simp)
 have kk1 := k0.then k1
 obtain ⟨a1,c1,rfl⟩ := own_form own1
 clear own1 k1 k0 b0
 go_wp2_with fail
 refine HF.out.mono ?_
 rintro e w2 ⟨R,g,rfl,br,hR,hg,k2⟩
 have kb := (Keeps.refl w2 []).alloc (.cells #[.pointer (some ⟨R,0,none⟩),.int .i64 0] 156)
 have lR := br.lt
 have dr : DR (w2.alloc (.cells #[.pointer (some ⟨R,0,none⟩),.int .i64 0] 156)) w2.heap.size R g D 0 0 :=
  ⟨Blk.new w2 _ _,br.keep kb,by omega,fun h0 => by have := lR.2 h0;omega⟩
 have HT := Lib.hid (table_any w2.heap.size R g symbols log D _ dr hs)
 have b2 := b1.keeps (k2.then kb) (by simp)
 have kk2 := (kk1.then k2).then kb
 have hs1 := kk1.size
 have hs2 := k2.size
 have hb1 := b1.lt
 have hRw : w.heap.size < R := Nat.lt_of_lt_of_le hb1 hR
 have hQw : w.heap.size < w2.heap.size := Nat.lt_of_lt_of_le hb1 hs2
 obtain ⟨Q,hQ⟩ : ∃ Q,w2.heap.size = Q := ⟨_,rfl⟩
 rw [hQ] at hQw
 rw [hQ] at HT hs2
 have hR3 : R < (w2.alloc (.cells #[.pointer (some ⟨R,0,none⟩),.int .i64 0] 156)).heap.size := dr.rd.lt.1
 have hw3 : w.heap.size < (w2.alloc (.cells #[.pointer (some ⟨R,0,none⟩),.int .i64 0] 156)).heap.size := b2.lt
 clear dr br kb k2 lR b1 kk1
 go_wp2_with fail
 have HQ := Lib.hid hQ
 generalize (w2.alloc (.cells #[.pointer (some ⟨R,0,none⟩),.int .i64 0] 156)) = w3 at *
 have hs3 := kk2.size
 clear hQ
 refine HT.out.mono ?_
 rintro e w4 ⟨G,l,a,c,rfl,own4,hl,hdone,k4⟩
 have b4 := b2.keeps k4 (by simp;omega)
 have kk4 : Keeps w w4 [] := kk2.trans k4 (fun j hj hl => by simp at hj;omega)
 have O4 := Lib.hid own4
 have hs4 := k4.size
 clear own4 k4 b2 HT HP HF
 cases hz : tabP D symbols log with
 | error er =>
  rw [hz] at hdone
  have hzz := HZ.out
  rw [hz] at hzz
  obtain ⟨her,p',d4⟩ := hdone
  have c0 := d4.blk.cell 0
  have c1 := d4.blk.cell 1
  simp at c0 c1
  have hne : (er != 0) = true := by simpa using her
  have hQ4 := d4.blk.lt
  have hT4 := b4.lt
  go_wp2_with fail
  have ka := (Keeps.refl w4 []).alloc (.cells #[.int .i64 (G : Int),.slice a l.length c] 27)
  have d5 := d4.keep ka
  have b5 := b4.keeps ka (by simp)
  have kk5 := kk4.then ka
  clear c0 c1 d4 b4 ka
  generalize (w4.alloc (.cells #[.int .i64 (G : Int),.slice a l.length c] 27)) = w5 at *
  refine wp_region_held_drew (S := (fun w' => Blk w' Q #[.pointer (some ⟨R,0,none⟩),.int .i64 er] 156)) (by kernel_rfl) d5.blk.drew (fun hHeld => ?_)
  refine takeM 0 rfl (by intro w9 hSw;have q0 := hSw.cell 0;have q1 := hSw.cell 1;simp at q0 q1;clear hSw;go_simp;(try with_reducible rfl)) ?_
  try simp only [Act.put,stA,stZ,stS]
  refine takeM 1 rfl (by intro w9 hSw;have q0 := hSw.cell 0;have q1 := hSw.cell 1;simp at q0 q1;clear hSw;go_simp;(try with_reducible rfl)) ?_
  try simp only [Act.put,stA,stZ,stS]
  refine takeM 2 rfl (by intro w9 hSw;have q0 := hSw.cell 0;have q1 := hSw.cell 1;simp at q0 q1;clear hSw;go_simp;(try with_reducible rfl)) ?_
  try simp only [Act.put,stA,stZ,stS]
  refine takeM 3 rfl (by intro w9 hSw;have q0 := hSw.cell 0;have q1 := hSw.cell 1;simp at q0 q1;clear hSw;go_simp;(try with_reducible rfl)) ?_
  try simp only [Act.put,stA,stZ,stS]
  refine takeM 4 rfl (by intro w9 hSw;have q0 := hSw.cell 0;have q1 := hSw.cell 1;simp at q0 q1;clear hSw;go_simp;(try with_reducible rfl)) ?_
  try simp only [Act.put,stA,stZ,stS]
  refine callL (i := 5) rfl (by kernel_rfl) (fun Kont hK => ?_)
  refine step_storeB rfl 27 _ _ rfl w.heap.size #[.int .i64 0,.slice none 0 0] rfl rfl _ _ b5.drew tblr_size rfl (by simp [Value.oneCell']) ?_
  intro W9 b9 k9
  refine hK.out _ _ ?_ (fun hHeld => ?_)
  ·exact hHeld.keeps k9 (by simp;omega)
  clear hK Kont
  refine takeM 6 rfl (by intro w9 hSw;clear hSw;go_simp;(try with_reducible rfl)) ?_
  try simp only [Act.put,stA,stZ,stS]
  refine wpAnyH_done (by kernel_rfl) ?_ _
  go_wp2_with fail
  have e9 := kk5.drew.trans k9 (S' := [w.heap.size]) (fun j hj hl => by have := List.mem_singleton.1 hj;omega)
  refine bodyPost_ret (v := .tuple #[.agg #[.int .i64 0,.slice none 0 0],.int .i64 er]) (res_cell_tmp rfl rfl rfl (loadr_tbl b9)) rfl ⟨e9.mono (by simp),?_⟩
  rw [← hzz]
  exact ⟨her,rfl,HC.out.keeps e9⟩
 | ok z =>
  obtain ⟨n,l',L2⟩ := z
  rw [hz] at hdone
  have hzz := HZ.out
  rw [hz] at hzz
  obtain ⟨rfl,rfl,p',rfl,hp',d4⟩ := hdone
  have c0 := d4.blk.cell 0
  have c1 := d4.blk.cell 1
  simp at c0 c1
  have hQ4 := d4.blk.lt
  have hT4 := b4.lt
  have hlen : ((rowBits D).drop p').length = 8 * D.length - p' := by rw [List.length_drop,rowBits_len]
  obtain ⟨m,hm⟩ : ∃ m,(8 - p' % 8) % 8 = m := ⟨_,rfl⟩
  have hmod : (8 * D.length - p') % 8 = m := by omega
  have hval : valL (((rowBits D).drop p').take m) = bitsAt D p' m := rfl
  obtain ⟨nb,hnb⟩ : ∃ nb,(p' + m) / 8 = nb := ⟨_,rfl⟩
  have hnb2 : D.length - (8 * D.length - p') / 8 = nb := by omega
  have hnbl : nb ≤ D.length := by omega
  simp only at hzz
  rw [hlen,hmod,hval,hnb2] at hzz
  have HZZ := Lib.hid hzz
  have HA := Lib.hid (fun W (d : DR W Q R g D p' 0) => fwdAlign_any R g D p' W d.rd)
  rw [hm,hnb] at HA
  obtain ⟨hbe,hbk⟩ := HBP.out nb hnbl
  have HB := Lib.hid (fun W (cu : Cur W p v B k) => bytes_any p k (nb : Int) v B W cu)
  rw [hbe,hbk] at HB
  clear hlen hmod hval hnb2 hzz hz hbe hbk hm hnb
  go_wp2_with fail
  have ka := (Keeps.refl w4 []).alloc (.cells #[.int .i64 (n : Int),.slice a l'.length c] 27)
  have d5 := d4.keep ka
  have b5 := b4.keeps ka (by simp)
  have t5 := Blk.new w4 #[.int .i64 (n : Int),.slice a l'.length c] 27
  have O5 := Lib.hid (own_keeps O4.out ka)
  have kk5 := kk4.then ka
  have hs5 := ka.size
  have hRl := d4.rd.lt.1
  clear c0 c1 d4 b4 ka
  generalize (w4.alloc (.cells #[.int .i64 (n : Int),.slice a l'.length c] 27)) = w5 at *
  have HA5 := HA.out _ d5
  by_cases hV : bitsAt D p' m = 0
  ·simp only [hV,if_true] at HZZ HA5
   refine HA5.mono ?_
   rintro e w6 ⟨rfl,br6,k6⟩
   have b6 := b5.keeps k6 (by simp;omega)
   have t6 := t5.keeps k6 (by simp;omega)
   have O6 := Lib.hid (own_old O5.out k6 (fun x hx hm => by have := List.mem_singleton.1 hm;have := (O4.out.lt x hx).1;omega))
   have kk6 : Keeps w w6 [] := kk5.trans k6 (fun j hj hl => by have := List.mem_singleton.1 hj;omega)
   have HC6 := Lib.hid (HC.out.keeps kk6)
   have hs6 := k6.size
   clear t5 b5 kk5 HA5 k6 br6
   go_wp2_with fail
   refine (HB.out _ HC6.out).mono ?_
   rintro e w7 ⟨r7,rfl,-,-,cur7,k7⟩
   have b7 := b6.keeps k7 (by simp;omega)
   have t7 := t6.keeps k7 (by simp;omega)
   have O7 := Lib.hid (own_old O6.out k7 (fun x hx hm => by have := List.mem_singleton.1 hm;have := (O4.out.lt x hx).1;omega))
   have kk7 : Keeps w w7 [p] := (kk6.mono (S' := [p]) (fun _ h => by cases h)).trans k7 (fun j hj hl => hj)
   have c0 := t7.cell 0
   have c1 := t7.cell 1
   simp at c0 c1
   clear t6 b6 kk6 k7
   go_wp2_with (refine wpList_store_blk rfl 27 _ _ rfl w.heap.size #[.int .i64 (n : Int),.slice a l'.length c] rfl rfl _ _ b7 tblr_size rfl (by simp [Value.oneCell']) ?_;intro W9 b9 k9)
   have e9 := kk7.trans k9 (S' := [w.heap.size]) (fun j hj hl => by have := List.mem_singleton.1 hj;omega)
   refine bodyPost_ret (v := .tuple #[.agg #[.int .i64 (n : Int),.slice a l'.length c],.int .i64 0]) (res_cell_tmp rfl rfl rfl (loadr_tbl b9)) rfl ⟨e9,?_⟩
   rw [← HZZ.out]
   refine ⟨a,c,rfl,own_base (own_old O7.out k9 (fun x hx hm => by have := List.mem_singleton.1 hm;have := (O4.out.lt x hx).1;omega)) (by omega),hl,?_⟩
   exact cur7.keepsS k9 (by simp;omega) (fun ad n0 c0 he h0 hm => by have := HOLD.out ad n0 c0 he h0;simp at hm;omega)
  ·simp only [hV,if_false] at HZZ HA5
   refine HA5.mono ?_
   rintro e w6 ⟨rfl,k6⟩
   have b6 := b5.keeps k6 (by simp)
   have kk6 := kk5.then k6
   clear t5 b5 kk5 HA5
   go_wp2_with (refine wpList_store_blk rfl 27 _ _ rfl w.heap.size #[.int .i64 0,.slice none 0 0] rfl rfl _ _ b6 tblr_size rfl (by simp [Value.oneCell']) ?_;intro W9 b9 k9)
   have e9 := kk6.trans k9 (S' := [w.heap.size]) (fun j hj hl => by have := List.mem_singleton.1 hj;omega)
   refine bodyPost_ret (v := .tuple #[.agg #[.int .i64 0,.slice none 0 0],.int .i64 14]) (res_cell_tmp rfl rfl rfl (loadr_tbl b9)) rfl ⟨e9.mono (by simp),?_⟩
   rw [← HZZ.out]
   exact ⟨by decide,rfl,HC.out.keeps e9⟩
end

section
open Go.RowKit

theorem cel_size : (Tryz.prog.info? 212).map (·.size) = some 3 := by kernel_rfl
theorem load_cel {w : World} {b : Nat} {x y z : Value} (h : Blk w b #[x,y,z] 212) : (loadVar 212 ⟨b,0,none⟩).run Tryz.prog w = .ok (.agg #[x,y,z]) w :=
 load_blk h Tryz.underlying212 rfl (by rw [cel_size];rfl)

def CelEnd (w : World) (M n : Nat) (l : List Nat) (s : Nat) (c : Cel) (e : Ending) (w' : World) : Prop :=
 e = .returned (.agg #[.int .i64 (c.1 : Int),.int .i64 (c.2.1 : Int),.int .i64 (c.2.2 : Int)]) ∧ MapI w' M (n + 1) (hadF (l ++ [s])) ∧ Keeps w w' [M]

set_option maxHeartbeats 2000000 in
theorem build1_any (bT bh bp M n g s : Nat) (x : Int) (nv : Value) (norm : List Int) (pa : Option Addr) (pc : Nat) (l : List Nat) (w : World) (hbT : Blk w bT #[.int .i64 (g : Int),nv] 27) (hnv : RdI .i64 w nv norm) (hnl : norm.length ≤ 256)
  (hbh : Blk w bh #[.map (some M)] 256) (hm : MapI w M n (hadF l)) (hbp : Blk w bp #[.slice pa (2 ^ g) pc] 25) (hx : norm[s]? = some x) (hx1 : -1 ≤ x) (hn : n ≤ 1000) (hg : g ≤ 9)
  (hX1 : 1 ≤ (stN x).toNat + l.count s) (hX2 : (stN x).toNat + l.count s < 2 * 2 ^ g) (hMT : M ≠ bT) (hMp : M ≠ bp) :
  Calls Tryz.prog 211 #[.int .i64 s,.pointer (some ⟨bT,0,none⟩),.pointer (some ⟨bh,0,none⟩),.pointer (some ⟨bp,0,none⟩)] w
   (CelEnd w M n l s (s,g - ((stN x).toNat + l.count s).log2,((stN x).toNat + l.count s) * 2 ^ (g - ((stN x).toNat + l.count s).log2) - 2 ^ g)) := by
 obtain ⟨A0,nn,cp0,rfl,hnn,-⟩ := hnv.form
 have hs := (List.getElem?_eq_some_iff.1 hx).1
 obtain ⟨bb,o,rfl,hbb,hcx⟩ := hnv.at hx
 have hcap := hnv.cap
 have hsI : (s : Int) < (nn : Int) := by omega
 have hS9 : 2 ^ g ≤ 512 := by
  have := Nat.pow_le_pow_right (n := 2) (by decide) hg
  rwa [show (2 : Nat) ^ 9 = 512 by decide] at this
 obtain ⟨Sg,hSg⟩ : ∃ S,2 ^ g = S := ⟨_,rfl⟩
 obtain ⟨k,hk⟩ : ∃ k,l.count s = k := ⟨_,rfl⟩
 obtain ⟨X,hX⟩ : ∃ X,(stN x).toNat + k = X := ⟨_,rfl⟩
 have hst := stN_nonneg hx1
 have hmx := stN_max hx1
 obtain ⟨N,hN⟩ : ∃ N : Int,-x = N := ⟨_,rfl⟩
 rw [hN] at hmx
 obtain ⟨T,hT⟩ : ∃ T : Int,stN x = T := ⟨_,rfl⟩
 rw [hk,hX] at hX1 hX2 ⊢
 rw [hSg] at hX2 hS9 ⊢
 rw [hT] at hst hmx hX
 have hxe : x ≤ 1024 := by
  have : stN x = x ∨ x = -1 := by unfold stN;split <;> omega
  omega
 have hwN : wrap64 N = N := IntWalk.wrap64_in _ ⟨by omega,by omega⟩
 obtain ⟨XI,hXI⟩ : ∃ D : Int,T + (k : Int) = D := ⟨_,rfl⟩
 have hXX : XI = (X : Int) := by omega
 obtain ⟨kI,hkI⟩ : ∃ D : Int,(k : Int) + 1 = D := ⟨_,rfl⟩
 have hwk : wrap64 kI = kI := IntWalk.wrap64_in _ ⟨by omega,by omega⟩
 have hwX : wrap64 XI = XI := IntWalk.wrap64_in _ ⟨by omega,by omega⟩
 have k0 := (Keeps.refl w []).alloc (.cells #[.int .i64 0,.int .i64 0,.int .i64 0] 212)
 have b5 := Blk.new w #[.int .i64 0,.int .i64 0,.int .i64 0] 212
 have bT0 := hbT.keeps k0 (by simp)
 have bh0 := hbh.keeps k0 (by simp)
 have bp0 := hbp.keeps k0 (by simp)
 have mp0 := hm.keeps k0 (by simp)
 have hcx0 := (k0.cell (p := ⟨bb,o + s,none⟩) hbb (by simp)).trans hcx
 have hMl := hm.lt
 have hTl := hbT.lt
 have hpl := hbp.lt
 have hlk := mp0.look (q := (s : Int)) (ik_small (by omega) (by omega))
 rw [hadF_get,hk] at hlk
 obtain ⟨w2,hu,mp2,g2⟩ := mp0.update (q := (s : Int)) (ik_small (by omega) (by omega)) kI (ik_small (by omega) (by omega)) (by unfold maxLen;omega)
 have hsn := hadF_snoc l s
 rw [hk,hkI] at hsn
 rw [hsn] at mp2
 rw [hSg] at bp0
 have k2 := Keeps.of_grown (S := [M]) g2 (fun j hj => by cases hj;simp)
 have bT2 := bT0.keeps k2 (by simp;omega)
 have bp2 := bp0.keeps k2 (by simp;omega)
 have b52 := b5.keeps k2 (by simp;omega)
 have kk2 : Keeps w w2 [M] := (k0.mono (S' := [M]) (by simp)).trans k2 (fun j hj _ => hj)
 have MP2 := Lib.hid mp2
 have B52 := Lib.hid b52
 have KK2 := Lib.hid kk2
 obtain ⟨lg,hlg⟩ : ∃ lg,X.log2 = lg := ⟨_,rfl⟩
 have HL := Lib.hid (fun w1 => Tryz.bits_Len (X : Int) w1 (by omega) (by omega))
 simp only [Int.toNat_natCast] at HL
 rw [bitLen_log hX1 (by omega),hlg] at HL
 have hlgg : lg ≤ g := by
  rw [← hlg]
  exact (cell_in hX1 (by rw [hSg];exact hX2)).1
 have hbase := (cell_in (log := g) hX1 (by rw [hSg];exact hX2)).2
 rw [hlg,hSg] at hbase
 rw [hlg]
 obtain ⟨b,hb⟩ : ∃ b,g - lg = b := ⟨_,rfl⟩
 rw [hb] at hbase ⊢
 have hb9 : b ≤ 9 := by omega
 obtain ⟨Pb,hPb⟩ : ∃ P,X * 2 ^ b = P := ⟨_,rfl⟩
 have hPI : (X : Int) * 2 ^ b = (Pb : Int) := by rw [← hPb];simp
 rw [hPb] at hbase ⊢
 have hPl : Pb ≤ 2048 := by
  have := hbase.2
  rw [Nat.add_mul,hPb] at this
  omega
 obtain ⟨BI,hBI⟩ : ∃ D : Int,(Pb : Int) - (Sg : Int) = D := ⟨_,rfl⟩
 have HBI := Lib.hid (show BI = ((Pb - Sg : Nat) : Int) by omega)
 obtain ⟨G1,hG1⟩ : ∃ D : Int,(g : Int) + 1 = D := ⟨_,rfl⟩
 obtain ⟨L1,hL1⟩ : ∃ D : Int,(lg : Int) + 1 = D := ⟨_,rfl⟩
 have hGL : G1 - L1 = (b : Int) := by omega
 have m1 : IntKind.i64.wrap G1 = G1 := by simp [IntKind.wrap,IntKind.signed,IntKind.bits];omega
 have m2 : IntKind.i64.wrap (b : Int) = (b : Int) := by simp [IntKind.wrap,IntKind.signed,IntKind.bits];omega
 have m3 : IntKind.i64.wrap (Pb : Int) = (Pb : Int) := by simp [IntKind.wrap,IntKind.signed,IntKind.bits];omega
 have m4 : IntKind.i64.wrap BI = BI := by simp [IntKind.wrap,IntKind.signed,IntKind.bits];omega
 have hXm : (X : Int) % 18446744073709551616 = (X : Int) := by omega
 have hmod : XI % 18446744073709551616 = XI := by omega
 have e0 := bT0.cell 0
 have e1 := bT0.cell 1
 simp at e0 e1
 obtain ⟨h0,-⟩ := bh0.one
 have HXX := Lib.hid hXX
 clear hx hcx hnn hnv hbT hbh hbp hm k0 b5 bT0 bh0 mp0 mp2 b52 kk2 g2 hsn hk hX hT hst hXX hlg hlgg hbase hb hPb bp0 hSg hbb hX2 hxe
 go_enter Tryz.func211,Tryz.ntmps211
 go_wp2_with fail
 rw [hwX,HXX.out]
 have q0 := bT2.cell 0
 simp at q0
 clear hlk hu hcx0 e0 e1 h0 hmod hwX hwN hwk
 go_quiet ((go_at_call 163;exact Calls.quiet_of_same (HL.out _)))
 go_wp2_with fail
 clear q0
 refine wp_region_held_drew (S := (fun w' => Blk w' bp #[.slice pa Sg pc] 25)) (by kernel_rfl) (bp2.drewN nq).drew (fun hHeld => ?_)
 refine takeM 0 rfl (by intro w9 hSw;obtain ⟨q0,-⟩ := hSw.one;clear hSw;go_simp;(try with_reducible rfl)) ?_
 try simp only [Act.put,stA,stZ,stS]
 refine takeM 1 rfl (by intro w9 hSw;obtain ⟨q0,-⟩ := hSw.one;clear hSw;go_simp;(try with_reducible rfl)) ?_
 try simp only [Act.put,stA,stZ,stS]
 refine takeM 2 rfl (by intro w9 hSw;obtain ⟨q0,-⟩ := hSw.one;clear hSw;go_simp;(try with_reducible rfl)) ?_
 try simp only [Act.put,stA,stZ,stS]
 refine takeM 3 rfl (by intro w9 hSw;obtain ⟨q0,-⟩ := hSw.one;clear hSw;go_simp;(try with_reducible rfl)) ?_
 try simp only [Act.put,stA,stZ,stS]
 refine takeM 4 rfl (by intro w9 hSw;obtain ⟨q0,-⟩ := hSw.one;clear hSw;go_simp;(try with_reducible rfl)) ?_
 try simp only [Act.put,stA,stZ,stS]
 refine takeM 5 rfl (by intro w9 hSw;obtain ⟨q0,-⟩ := hSw.one;clear hSw;go_simp;(try with_reducible rfl)) ?_
 try simp only [Act.put,stA,stZ,stS]
 refine takeM 6 rfl (by intro w9 hSw;obtain ⟨q0,-⟩ := hSw.one;clear hSw;go_simp;(try with_reducible rfl)) ?_
 try simp only [Act.put,stA,stZ,stS]
 refine takeM 7 rfl (by intro w9 hSw;obtain ⟨q0,-⟩ := hSw.one;clear hSw;go_simp;(try with_reducible rfl)) ?_
 try simp only [Act.put,stA,stZ,stS]
 refine takeM 8 rfl (by intro w9 hSw;obtain ⟨q0,-⟩ := hSw.one;clear hSw;go_simp;(try with_reducible rfl)) ?_
 try simp only [Act.put,stA,stZ,stS]
 refine callL (i := 9) rfl (by kernel_rfl) (fun Kont hK => ?_)
 refine step_storeB rfl 212 _ _ rfl w.heap.size #[.int .i64 (s : Int),.int .i64 (b : Int),.int .i64 BI] rfl rfl _ _ (B52.out.drewN nq).drew cel_size rfl (by simp [Value.oneCell']) ?_
 intro W9 b9 k9
 refine hK.out _ _ ?_ (fun hHeld => ?_)
 ·exact hHeld.keeps k9 (by simp;omega)
 clear hK Kont
 refine wpAnyH_done (by kernel_rfl) ?_ _
 go_wp2_with fail
 refine bodyPost_ret (v := .agg #[.int .i64 (s : Int),.int .i64 (b : Int),.int .i64 BI]) (res_cell rfl rfl (load_cel b9)) rfl ⟨by rw [HBI.out],?_,?_⟩
 ·exact MP2.out.keeps (((Keeps.refl w2 []).drewN nq).drew.mono (S' := [w.heap.size]) (by simp) |>.trans k9 (fun j hj _ => hj)) (by simp;omega)
 ·exact (((KK2.out.drewN nq).drew).trans k9 (fun j hj hl => by have := List.mem_singleton.1 hj;omega))

theorem Tryz.infoCel : (Tryz.prog.info? 212).map (fun i => (i.zero,i.size,i.bytes)) = some (some (.agg #[.int .i64 0,.int .i64 0,.int .i64 0]),3,24) := by kernel_rfl

theorem wpList_appC {P : Program} {w : World} {ops : Array Oper} {rest : List Oper} {o : Oper} {a : Act} {Q : Exit → Act → World → Prop} (hg : o.guard = none) (s x : Operand) (t : TypeId)
  (ho : o.op = .call { callee := .builtin .append,args := #[s,x],argTypes := #[t,t] })
  (base : Nat) (i : TypeInfo) (ht : P.underlying t = some (.slice 212)) (hi : P.info? 212 = some i) (hz : i.zero = some (.agg #[.int .i64 0,.int .i64 0,.int .i64 0])) (hsize : i.size = 3) (hby : i.bytes = 24)
  (v : Value) (n : Nat) (L : List Cel) (c : Cel) (B : Nat) (hs : a.eval s = v) (hx : a.eval x = .slice (some ⟨B,0,none⟩) 1 1) (hB : w.heap.size = B)
  (hown : w.ownsRow base 212 3 v n (cellsW rowC L)) (h63 : n ≤ 10000000) (hbase : base ≤ w.heap.size)
  (h : ∀ a' c' w',w'.ownsRow base 212 3 (.slice a' (n + 1) c') (n + 1) (cellsW rowC (L ++ [c])) → Keeps w w' (match v.ownBlock with | some g => [g] | none => []) → wpList P ops Q rest (a.put o.dst (.slice a' (n + 1) c')) w') :
  wpList P ops Q (o :: rest) a (w.alloc (.cells #[.int .i64 (c.1 : Int),.int .i64 (c.2.1 : Int),.int .i64 (c.2.2 : Int)] 212)) := by
 subst hB
 have hb := Blk.new w #[.int .i64 (c.1 : Int),.int .i64 (c.2.1 : Int),.int .i64 (c.2.2 : Int)] 212
 refine wpList_append_own _ hg s x t ho base _ i (.agg #[.int .i64 0,.int .i64 0,.int .i64 0]) 3 24 ht hi hz hsize hby rfl (by decide) v n (cellsW rowC L) hs (own_keeps hown ((Keeps.refl w []).alloc _)) _ 1 1 (rowC c) hx rfl (fun j u hj => ?_) (rowC_one c) (by unfold maxLen;omega) (by omega) (by simp;omega) ?_
 ·have e : (⟨w.heap.size,0,none⟩ : Addr).add j = ⟨w.heap.size,j,none⟩ := by simp [Addr.add];omega
  rw [e,hb.cell]
  simpa [rowC] using hj
 intro v3 w3 h3 g3 _
 obtain ⟨a3,c3,rfl⟩ := own_form h3
 refine h a3 c3 w3 ?_ ?_
 ·have : cellsW rowC L ++ rowC c = cellsW rowC (L ++ [c]) := by
   rw [cellsW_append rowC_len]
   show _ = _ ++ (rowC c ++ [])
   rw [List.append_nil]
  rw [this] at h3
  exact h3
 ·exact ((Keeps.refl w _).alloc _).trans (Keeps.of_grown g3 (fun k hk => by rw [hk];simp)) (fun j hj _ => hj)

theorem build_bad (g : Int) (v : Value) (norm : List Int) (w : World) (hv : RdI .i64 w v norm) (hn : norm.length ≤ 1000000) (hb : ∀ x ∈ norm,-9223372036854775808 ≤ x ∧ x ≤ 9223372036854775807) (hok : okN g norm 256 9 = false) :
  Calls Tryz.prog 187 #[.agg #[.int .i64 g,v]] w fun e w' => e = .returned (.tuple #[.slice none 0 0,.int .i64 13]) ∧ Keeps w w' [] := by
 obtain ⟨A0,n,cp0,rfl,hnl,-⟩ := hv.form
 have k0 := (Keeps.refl w []).alloc (.cells #[.int .i64 g,.slice A0 n cp0] 27)
 have HC := Lib.hid (spread_bad g _ norm _ (hv.keeps k0) hn hb hok)
 clear hv hnl hok hb
 go_enter Tryz.func187,Tryz.ntmps187
 go_wp2_with (go_at_call 210;(refine HC.out.mono ?_;rintro e w1 ⟨rfl,k1⟩))
 go_ret2
 exact ⟨rfl,(k0.then k1).alloc _⟩

set_option maxHeartbeats 2000000 in
theorem build_ok (g : Nat) (v : Value) (norm : List Int) (w : World) (hv : RdI .i64 w v norm) (hb : ∀ x ∈ norm,-9223372036854775808 ≤ x ∧ x ≤ 9223372036854775807) (hok : TblOk g norm) (hok' : okN (g : Int) norm 256 9 = true) :
  Calls Tryz.prog 187 #[.agg #[.int .i64 (g : Int),v]] w fun e w' => ∃ a c,e = .returned (.tuple #[.slice a (2 ^ g) c,.int .i64 0]) ∧ w'.ownsRow w.heap.size 212 3 (.slice a (2 ^ g) c) (2 ^ g) (cellsW rowC (cellsL g norm (2 ^ g))) ∧ Keeps w w' [] := by
 have hmm := @run_makeMap Tryz.prog
 have hmf : ∀ (fn : Fn) (first cap : Array Value) (w : World),(Instr.makeFunc fn first cap).run Tryz.prog w = .ok (.func fn first cap) w := fun _ _ _ _ => rfl
 obtain ⟨i0,hi,hz0,hz1,hz2⟩ := info_parts Tryz.infoCel
 obtain ⟨A0,n,cp0,rfl,hnl,-⟩ := hv.form
 have k0 := (Keeps.refl w []).alloc (.cells #[.int .i64 (g : Int),.slice A0 n cp0] 27)
 have b0 := Blk.new w #[.int .i64 (g : Int),.slice A0 n cp0] 27
 have HC := Lib.hid (spread_ok g _ norm _ (hv.keeps k0) hb hok hok')
 have HV := Lib.hid hv
 have HOK := Lib.hid hok
 have HN := Lib.hid hnl
 obtain ⟨hS1,hS2⟩ := hok.size
 have hn256 : n ≤ 256 := by have := hok.len;omega
 have hg9 := hok.g9
 have HB1 := Lib.hid (fun bT bh bp M nn g s x nv norm pa pc l w => build1_any bT bh bp M nn g s x nv norm pa pc l w)
 have HPL : Hid (∀ t,t < 2 ^ g → (castL (placesL g norm))[t]? = some ((placeN g norm t : Nat) : Int)) := fun t ht => by
  have h3 := placesL_get (g := g) (p := t) (norm := norm) ht
  simp [castL,h3]
 have HLEN : Hid ((placesL g norm).length = 2 ^ g) := placesL_len g norm
 obtain ⟨S,hSe⟩ : ∃ S,2 ^ g = S := ⟨_,rfl⟩
 rw [hSe] at HC hS1 hS2 HPL HLEN ⊢
 have HSE := Lib.hid hSe
 clear hv hnl hok' hb hok hSe
 go_enter Tryz.func187,Tryz.ntmps187
 go_wp2_with (go_at_call 210;(refine HC.out.mono ?_;rintro e w1 ⟨O,hO,rfl,row1,k1⟩))
 have b1 := b0.keeps k1 (by simp)
 have kk1 := k0.then k1
 have hOl := row1.lt
 have hTl := b1.lt
 obtain ⟨H,hH⟩ : ∃ H,w1.heap.size = H := ⟨_,rfl⟩
 have q4 := ((Blk.new w1 #[.slice (some ⟨O,0,none⟩) S S] 25).alloc (.map #[] 0)).alloc (.cells #[.map (some (w1.heap.size + 1))] 256)
 have qm := (MapI.made (w1.alloc (.cells #[.slice (some ⟨O,0,none⟩) S S] 25))).alloc (.cells #[.map (some (w1.heap.size + 1))] 256)
 have q6 := Blk.new ((w1.alloc (.cells #[.slice (some ⟨O,0,none⟩) S S] 25)).alloc (.map #[] 0)) #[.map (some (w1.heap.size + 1))] 256
 have ka := (((Keeps.refl w1 []).alloc (.cells #[.slice (some ⟨O,0,none⟩) S S] 25)).alloc (.map #[] 0)).alloc (.cells #[.map (some (w1.heap.size + 1))] 256)
 have b2 := b1.keeps ka (by simp)
 have row2 := row1.keeps ka (by simp)
 have kk2 := kk1.then ka
 simp only [World.size_alloc] at q4 qm q6
 rw [hH] at hOl hTl q4 qm q6 ka b2 row2 kk2 ⊢
 have hsz : (((w1.alloc (.cells #[.slice (some ⟨O,0,none⟩) S S] 25)).alloc (.map #[] 0)).alloc (.cells #[.map (some (H + 1))] 256)).heap.size = H + 3 := by simp;omega
 generalize (((w1.alloc (.cells #[.slice (some ⟨O,0,none⟩) S S] 25)).alloc (.map #[] 0)).alloc (.cells #[.map (some (H + 1))] 256)) = W0 at *
 rw [← hadF_nil] at qm
 have hwO : w.heap.size < O := by have := hO;simp at this;omega
 have HR0 := Lib.hid (show _ ∧ _ ∧ _ ∧ _ ∧ _ ∧ _ ∧ _ from ⟨b2,row2,q4,qm,q6,kk2,hsz⟩)
 clear b0 b1 k0 k1 kk1 row1 row2 q4 qm q6 ka b2 kk2 hH hsz hmm HC hO
 go_loopw [8,23] (fun s8 s23 wr => ∃ (i c : Nat) (a : Option Addr),i ≤ S ∧ s23 = .int .i64 i ∧ s8 = .slice a i c ∧ Blk wr w.heap.size #[.int .i64 (g : Int),.slice A0 n cp0] 27 ∧ RowI wr O S S (castL (placesL g norm)) ∧ Blk wr H #[.slice (some ⟨O,0,none⟩) S S] 25 ∧
   MapI wr (H + 1) i (hadF ((placesL g norm).take i)) ∧ Blk wr (H + 1 + 1) #[.map (some (H + 1))] 256 ∧ Keeps w wr [] ∧ wr.ownsRow (H + 3) 212 3 (.slice a i c) i (cellsW rowC (cellsL g norm i)) ∧ H + 3 ≤ wr.heap.size) (fun _ s23 _ => S - (intOf s23).toNat)
 case atStart =>
  obtain ⟨x1,x2,x3,x4,x5,x6,x7⟩ := HR0.out
  exact ⟨0,0,none,Nat.zero_le _,rfl,rfl,x1,x2,x3,x4,x5,x6,World.ownsRow_nil _ _ _ _,by omega⟩
 case round =>
  clear HR0
  obtain ⟨i,c,a,hi',rfl,rfl,bT,row,b4,mp,b6,kk,own,hsz⟩ := hrel
  by_cases hlt : i < S
  ·have hiS : (i : Int) < (S : Int) := by omega
   have hget := HPL.out i hlt
   have ci := row.at hget
   have hyl : placeN g norm i < norm.length := placeN_lt hg9 HOK.out.pos
   obtain ⟨x,hx,hxg⟩ := placeN_norm (p := i) HOK.out
   have hXP := cellX_pos HOK.out (p := i) (by rw [HSE.out];exact hlt)
   have hXe : cellX g norm i = (stN x).toNat + ((placesL g norm).take i).count (placeN g norm i) := by unfold cellX;rw [hxg]
   have hcel : celP g norm i = (placeN g norm i,g - (cellX g norm i).log2,cellX g norm i * 2 ^ (g - (cellX g norm i).log2) - 2 ^ g) := rfl
   have hx1 := HOK.out.low x (List.mem_of_getElem? hx)
   have hb1 := HB1.out w.heap.size (H + 1 + 1) H (H + 1) i g (placeN g norm i) x (.slice A0 n cp0) norm (some ⟨O,0,none⟩) S ((placesL g norm).take i) wr bT (HV.out.keeps kk) HOK.out.len b6 mp (by rw [HSE.out];exact b4) hx hx1 (by omega) hg9 (by rw [← hXe];exact hXP.1) (by rw [← hXe];exact hXP.2) (by omega) (by omega)
   rw [← hXe,← hcel] at hb1
   have hpl := placesL_get (g := g) (p := i) (norm := norm) (by rw [HSE.out];exact hlt)
   have htk : (placesL g norm).take i ++ [placeN g norm i] = (placesL g norm).take (i + 1) := by
    rw [List.take_add_one,hpl];rfl
   have HCALL := Lib.hid hb1
   have HCS := Lib.hid (cellsL_succ g norm i)
   obtain ⟨C,hC⟩ : ∃ C,celP g norm i = C := ⟨_,rfl⟩
   rw [hC] at HCALL HCS
   obtain ⟨sy,hsy⟩ : ∃ s,placeN g norm i = s := ⟨_,rfl⟩
   rw [hsy] at ci HCALL htk
   have HTK := Lib.hid htk
   have HREL := Lib.hid (show _ ∧ _ ∧ _ ∧ _ from ⟨bT,row,b4,b6⟩)
   have OW := Lib.hid own
   have YG := Lib.hid (young own)
   clear hget hyl hx hxg hXP hXe hcel hx1 hb1 hpl htk hC hsy bT row b4 mp b6 own
   go_wp2_with fail
   refine HCALL.out.mono ?_
   rintro e w2 ⟨rfl,mp2,k2⟩
   rw [HTK.out] at mp2
   have hM2 : Keeps w w2 [] := kk.trans k2 (fun j hj hl => by have := List.mem_singleton.1 hj;omega)
   have OW2 := Lib.hid (own_old OW.out k2 (fun x hx hm => by have := List.mem_singleton.1 hm;have := (OW.out.lt x hx).1;omega))
   have MP2 := Lib.hid mp2
   have hs2 := k2.size
   clear mp2 ci
   go_wp2_with (at_builtin;(refine wpList_appC (w := w2) rfl _ _ 206 rfl (H + 3) i0 Tryz.underlying206 hi hz0 hz1 hz2 (.slice a i c) i (cellsL g norm i) C _ rfl rfl rfl OW2.out (by omega) (by omega) ?_;intro a3 c3 w3 own3 k3))
   have hk23 : ∀ x,x < H + 3 → x ∉ (match Value.ownBlock (.slice a i c) with | some g => [g] | none => []) := fun x hx hm => by have := YG.out x hm;omega
   have OW3 := Lib.hid own3
   have K3 := Lib.hid k3
   have hs3 := k3.size
   clear own3 k3
   go_roundw
   case rel =>
    obtain ⟨x1,x2,x3,x4⟩ := HREL.out
    refine ⟨i + 1,c3,a3,by omega,by go_num,rfl,(x1.keeps k2 (by simp;omega)).keeps K3.out (hk23 _ (by omega)),(x2.keeps k2 (by simp;omega)).keeps K3.out (hk23 _ (by omega)),(x3.keeps k2 (by simp)).keeps K3.out (hk23 _ (by omega)),MP2.out.keeps K3.out (hk23 _ (by omega)),(x4.keeps k2 (by simp)).keeps K3.out (hk23 _ (by omega)),hM2.trans K3.out (fun j hj hl => by have := YG.out j hj;omega),?_,by omega⟩
    rw [HCS.out]
    exact OW3.out
   case measure => simp [intOf];omega
  ·have hiS : decide ((i : Int) < (S : Int)) = false := decide_eq_false (by omega)
   have hiN : decide (i < S) = false := decide_eq_false (by omega)
   obtain rfl : i = S := by omega
   have OW := Lib.hid own
   have KK := Lib.hid kk
   clear bT row b4 mp b6 own kk
   go_wp2_with fail
   go_ret2
   exact ⟨a,c,rfl,own_base OW.out (by omega),KK.out⟩
end

section
open Go.RowKit
end

section
open Go.RowKit

theorem mask_all : ∀ b : Fin 10,∀ v : Fin 512,v.val < 2 ^ b.val → bits BinOp.and IntKind.u64 ((v.val : Nat) : Int) (IntKind.u64.wrap (IntKind.u64.wrap (2 ^ b.val) - 1)) = ((v.val : Nat) : Int) := by decide +kernel

set_option maxHeartbeats 2000000 in
theorem next_any (s b base v : Nat) (w : World) (hb : b ≤ 9) (hv : v < 2 ^ b) (hbase : base ≤ 1000) :
  Calls Tryz.prog 190 #[.agg #[.int .i64 (s : Int),.int .i64 (b : Int),.int .i64 (base : Int)],.int .u64 (v : Int)] w fun e w' => e = .returned (.int .i64 ((base + v : Nat) : Int)) ∧ Keeps w w' [] := by
 have h9 : 2 ^ b ≤ 512 := by
  have := Nat.pow_le_pow_right (n := 2) (by decide) hb
  rwa [show (2 : Nat) ^ 9 = 512 by decide] at this
 have hmask := mask_all ⟨b,by omega⟩ ⟨v,by omega⟩ hv
 simp only at hmask
 have k0 := (Keeps.refl w []).alloc (.cells #[.int .i64 (s : Int),.int .i64 (b : Int),.int .i64 (base : Int)] 212)
 have b0 := Blk.new w #[.int .i64 (s : Int),.int .i64 (b : Int),.int .i64 (base : Int)] 212
 have c1 := b0.cell 1
 have c2 := b0.cell 2
 simp at c1 c2
 have HRES : Hid (wrap64 ((base : Int) + wrap64 (bits BinOp.and IntKind.u64 (v : Int) (IntKind.u64.wrap (IntKind.u64.wrap (2 ^ (min (b : Int) 62).toNat) - 1)))) = ((base + v : Nat) : Int)) := by
  show _ = _
  rw [show (min (b : Int) 62).toNat = b by omega,hmask,IntWalk.wrap64_in (v : Int) ⟨by omega,by omega⟩,IntWalk.wrap64_in _ ⟨by omega,by omega⟩]
  omega
 clear hmask
 have hv5 : v < 512 := by omega
 clear hv h9 b0
 go_enter Tryz.func190,Tryz.ntmps190
 go_wp2_with fail
 go_quiet (fail)
 go_wp2_with fail
 go_ret
 exact ⟨by rw [← HRES.out];rfl,k0.drewN _⟩
end

section
open Go.RowKit

theorem bwdLeft_any (R g : Nat) (B : List Int) (a b : Nat) (w : World) (h : BitR w R g 259 B a b) :
  Calls Tryz.prog 191 #[.pointer (some ⟨R,0,none⟩)] w fun e w' => e = .returned (.int .i64 ((b - a : Nat) : Int)) ∧ Keeps w w' [] := by
 have HL := Lib.hid (rowLeft_any R g _ B a b w h)
 clear h
 go_enter Tryz.func191,Tryz.ntmps191
 go_wp2_with fail
 refine HL.out.mono ?_
 rintro e w1 ⟨rfl,q,rfl⟩
 go_wp2_with fail
 go_ret
 exact ⟨rfl,(Keeps.refl w []).drewN q⟩

theorem mayE_zero {n : Int} {r : Nat} {s : Int} (hs : s ≠ 0) (h : mayE n r s = 0) : 0 ≤ n ∧ n ≤ 64 ∧ n ≤ (r : Int) := by
 unfold mayE at h
 split at h
 ·cases h
 ·split at h
  ·exact absurd h hs
  ·omega

set_option maxHeartbeats 4000000 in
theorem bwdSkip_any (R g : Nat) (B : List Int) (a b : Nat) (n : Int) (w : World) (h : BitR w R g 259 B a b) :
  Calls Tryz.prog 213 #[.pointer (some ⟨R,0,none⟩),.int .i64 n] w fun e w' => e = .returned (.int .i64 (mayE n (b - a) 14)) ∧
   if mayE n (b - a) 14 = 0 then BitR w' R g 259 B a (b - n.toNat) ∧ Keeps w w' [R] else ∃ q,w' = w.drewN q := by
 have HM := Lib.hid (rowMay_any R g _ B a b n 14 w h)
 obtain ⟨E,hE⟩ : ∃ E,mayE n (b - a) 14 = E := ⟨_,rfl⟩
 rw [hE] at HM ⊢
 by_cases hE0 : E = 0
 ·subst hE0
  simp only [if_true]
  obtain ⟨h1,h2,h3⟩ := mayE_zero (by decide) hE
  obtain ⟨m,rfl⟩ := Int.eq_ofNat_of_zero_le h1
  simp only [Int.toNat_natCast]
  have hab := h.hab
  have hb := h.hb
  have hl := h.len
  obtain ⟨bs,c1,c2,c3⟩ := h.cells
  obtain ⟨A0,k,cp,rfl,-,-⟩ := c2.form
  obtain ⟨D,hD⟩ : ∃ D : Int,(b : Int) - (m : Int) = D := ⟨_,rfl⟩
  have hw1 : wrap64 D = D := IntWalk.wrap64_in _ ⟨by omega,by omega⟩
  have hDb : D = ((b - m : Nat) : Int) := by omega
  have HDB := Lib.hid hDb
  have hne := h.ne
  have HBD := Lib.hid (show B.length ≤ 1000000 ∧ (∀ x ∈ B,0 ≤ x ∧ x ≤ 255) ∧ a ≤ b - m ∧ b - m ≤ 8 * B.length from ⟨h.len,h.bytes,by omega,by omega⟩)
  have C3 := Lib.hid c3
  clear h hE h1 h2 h3 hab hb hl c3 hDb
  go_enter Tryz.func213,Tryz.ntmps213
  go_wp2_with fail
  refine HM.out.mono ?_
  rintro e w1 ⟨rfl,q,rfl⟩
  replace c1 := c1.drewN q
  replace c2 := c2.drewN q
  have k0 := (Keeps.refl w []).drewN q
  generalize w.drewN q = w1 at *
  have q1 := c1.cell 2
  have f1 := c1.frozen 2
  simp at q1
  go_wp2_with fail
  go_ret
  have kS : Keeps w1 (w1.setCell ⟨R,2,none⟩ (.int .i64 D)) [R] := (Keeps.refl w1 _).setCell (.inr (by simp)) _
  have d1 : Blk (w1.setCell ⟨R,2,none⟩ (.int .i64 D)) R #[.slice A0 k cp,.int .i64 (a : Int),.int .i64 D] 259 := by
   have := c1.set 2 (.int .i64 D)
   simpa using this
  have d2 := c2.keepsS kS (fun ad n cp e _ hm => hne (by rw [← C3.out ad n cp e];simpa using hm))
  exact ⟨rfl,⟨⟨_,by rw [← HDB.out];exact d1,d2,C3.out⟩,hne,HBD.out.1,HBD.out.2.1,HBD.out.2.2.1,HBD.out.2.2.2⟩,(k0.mono (S' := [R]) (fun _ h => by cases h)).trans kS (fun x hx _ => hx)⟩
 ·simp only [hE0,if_false]
  have hne : (E != 0) = true := by simpa using hE0
  clear h hE
  go_enter Tryz.func213,Tryz.ntmps213
  go_wp2_with (go_at_call 209;(refine HM.out.mono ?_;rintro e w1 ⟨rfl,q,rfl⟩))
  go_ret
  exact ⟨rfl,_,rfl⟩

set_option maxHeartbeats 4000000 in
theorem bwdTake_any (R g : Nat) (B : List Int) (a b : Nat) (n : Int) (w : World) (h : BitR w R g 259 B a b) :
  Calls Tryz.prog 189 #[.pointer (some ⟨R,0,none⟩),.int .i64 n] w fun e w' =>
   if mayE n (b - a) 14 = 0 then e = .returned (.tuple #[.int .u64 (bitsAt B (b - n.toNat) n.toNat : Nat),.int .i64 0]) ∧ BitR w' R g 259 B a (b - n.toNat) ∧ Keeps w w' [R]
   else e = .returned (.tuple #[.int .u64 0,.int .i64 (mayE n (b - a) 14)]) ∧ ∃ q,w' = w.drewN q := by
 have HS := Lib.hid (bwdSkip_any R g B a b n w h)
 obtain ⟨E,hE⟩ : ∃ E,mayE n (b - a) 14 = E := ⟨_,rfl⟩
 rw [hE] at HS ⊢
 by_cases hE0 : E = 0
 ·subst hE0
  simp only [if_true] at HS ⊢
  obtain ⟨h1,h2,h3⟩ := mayE_zero (by decide) hE
  obtain ⟨m,rfl⟩ := Int.eq_ofNat_of_zero_le h1
  simp only [Int.toNat_natCast] at HS ⊢
  have hab := h.hab
  have hb := h.hb
  obtain ⟨c,hc⟩ : ∃ c,b - m = c := ⟨_,rfl⟩
  have hcm : c + m ≤ 8 * B.length := by omega
  have hm64 : m ≤ 64 := by omega
  rw [hc] at HS ⊢
  clear h hE h1 h2 h3 hab hb hc
  go_enter Tryz.func189,Tryz.ntmps189
  go_wp2_with fail
  refine HS.out.mono ?_
  rintro e w1 ⟨rfl,bR,kS⟩
  go_wp2_with fail
  obtain ⟨bs,c1,c2,c3⟩ := bR.cells
  obtain ⟨A0,k,cp,rfl,-,-⟩ := c2.form
  have HV := Lib.hid (fun w2 (kk : Keeps w1 w2 []) => value_any R c m _ _ _ B w2 _ (c1.keeps kk (by simp)) (c2.keeps kk) bR.len bR.bytes hcm hm64)
  refine wp_region_held_drew (S := (fun w' => Blk w' R #[.slice A0 k cp,.int .i64 (a : Int),.int .i64 (c : Int)] 259 ∧ Keeps w1 w' [])) (by kernel_rfl) ⟨c1.drew,(Keeps.refl w1 []).drew⟩ (fun hHeld => ?_)
  refine takeM 0 rfl (by intro w9 hSw;have q0 := hSw.1.cell 0;have q1 := hSw.1.cell 1;have q2 := hSw.1.cell 2;simp at q0 q1 q2;clear hSw;go_simp;(try with_reducible rfl)) ?_
  try simp only [Act.put,stA,stZ,stS]
  refine takeM 1 rfl (by intro w9 hSw;have q0 := hSw.1.cell 0;have q1 := hSw.1.cell 1;have q2 := hSw.1.cell 2;simp at q0 q1 q2;clear hSw;go_simp;(try with_reducible rfl)) ?_
  try simp only [Act.put,stA,stZ,stS]
  refine takeM 2 rfl (by intro w9 hSw;have q0 := hSw.1.cell 0;have q1 := hSw.1.cell 1;have q2 := hSw.1.cell 2;simp at q0 q1 q2;clear hSw;go_simp;(try with_reducible rfl)) ?_
  try simp only [Act.put,stA,stZ,stS]
  refine takeM 3 rfl (by intro w9 hSw;have q0 := hSw.1.cell 0;have q1 := hSw.1.cell 1;have q2 := hSw.1.cell 2;simp at q0 q1 q2;clear hSw;go_simp;(try with_reducible rfl)) ?_
  try simp only [Act.put,stA,stZ,stS]
  refine takeM 4 rfl (by intro w9 hSw;have q0 := hSw.1.cell 0;have q1 := hSw.1.cell 1;have q2 := hSw.1.cell 2;simp at q0 q1 q2;clear hSw;go_simp;(try with_reducible rfl)) ?_
  try simp only [Act.put,stA,stZ,stS]
  refine takeM 5 rfl (by intro w9 hSw;have q0 := hSw.1.cell 0;have q1 := hSw.1.cell 1;have q2 := hSw.1.cell 2;simp at q0 q1 q2;clear hSw;go_simp;(try with_reducible rfl)) ?_
  try simp only [Act.put,stA,stZ,stS]
  refine takeM 6 rfl (by intro w9 hSw;have q0 := hSw.1.cell 0;have q1 := hSw.1.cell 1;have q2 := hSw.1.cell 2;simp at q0 q1 q2;clear hSw;go_simp;(try with_reducible rfl)) ?_
  try simp only [Act.put,stA,stZ,stS]
  refine takeM 7 rfl (by intro w9 hSw;have q0 := hSw.1.cell 0;have q1 := hSw.1.cell 1;have q2 := hSw.1.cell 2;simp at q0 q1 q2;clear hSw;go_simp;(try with_reducible rfl)) ?_
  try simp only [Act.put,stA,stZ,stS]
  refine takeM 8 rfl (by intro w9 hSw;have q0 := hSw.1.cell 0;have q1 := hSw.1.cell 1;have q2 := hSw.1.cell 2;simp at q0 q1 q2;clear hSw;go_simp;(try with_reducible rfl)) ?_
  try simp only [Act.put,stA,stZ,stS]
  refine callL (i := 9) rfl (by kernel_rfl) (fun Kont hK => ?_)
  go_simp
  refine (HV.out _ hHeld.2).mono ?_;rintro e w3 ⟨rfl,kk⟩
  go_wp2_with fail
  refine hK.out _ _ ?_ (fun hHeld => ?_)
  ·(exact ⟨hHeld.1.keeps kk (by simp),hHeld.2.then kk⟩)
  clear hK Kont
  refine takeM 10 rfl (by intro w9 hSw;clear hSw;go_simp;(try with_reducible rfl)) ?_
  try simp only [Act.put,stA,stZ,stS]
  refine takeM 11 rfl (by intro w9 hSw;clear hSw;go_simp;(try with_reducible rfl)) ?_
  try simp only [Act.put,stA,stZ,stS]
  refine wpAnyH_done (by kernel_rfl) ?_ _
  go_wp2_with fail
  go_ret2
  exact ⟨rfl,bR.keep hHeld.2,kS.trans hHeld.2 (fun j hj _ => by cases hj)⟩
 ·simp only [hE0,if_false] at HS ⊢
  have hne : (E != 0) = true := by simpa using hE0
  clear h hE
  go_enter Tryz.func189,Tryz.ntmps189
  go_wp2_with (go_at_call 213;(refine HS.out.mono ?_;rintro e w1 ⟨rfl,q,rfl⟩))
  go_ret2
  exact ⟨rfl,_,rfl⟩

def topB (B : List Int) : Nat := 8 * B.length + Lib.bitLen (B.getD (B.length - 1) 0).toNat - 9

set_option maxHeartbeats 2000000 in
theorem newBwd_no (v : Value) (B : List Int) (w : World) (hv : RdI .u8 w v B) (hl : B.length ≤ 1000000) (hb : B.getD (B.length - 1) 0 = 0) :
  Calls Tryz.prog 188 #[v] w fun e w' => e = .returned (.tuple #[.pointer none,.int .i64 14]) ∧ w' = w := by
 obtain ⟨A0,n,cp0,rfl,hnl,-⟩ := hv.form
 by_cases hn0 : n = 0
 ·subst hn0
  clear hv hnl hb hl
  go_enter Tryz.func188,Tryz.ntmps188
  go_wp2_with fail
  go_ret2
  exact ⟨rfl,rfl⟩
 ·obtain ⟨m,rfl⟩ : ∃ m,n = m + 1 := ⟨n - 1,by omega⟩
  obtain ⟨y,hy⟩ : ∃ y,B[m]? = some y := ⟨_,List.getElem?_eq_getElem (by omega)⟩
  have HY : B.getD (B.length - 1) 0 = y := by
   rw [← hnl,Nat.add_sub_cancel,List.getD_eq_getElem?_getD,hy];rfl
  rw [HY] at hb
  subst hb
  obtain ⟨bb,o,rfl,hbb,hc⟩ := hv.at hy
  have hcap := hv.cap
  have hm : m ≤ 1000000 := by omega
  have hz : ((m : Int) + 1 == 0) = false := by simp;omega
  clear hv hnl hy HY hl
  go_enter Tryz.func188,Tryz.ntmps188
  go_wp2_with fail
  go_ret2
  exact ⟨rfl,rfl⟩

theorem bitLen8 : ∀ x : Fin 256,Lib.bitLen x.val ≤ 8 ∧ (x.val ≠ 0 → 1 ≤ Lib.bitLen x.val) := by decide +kernel

set_option maxHeartbeats 4000000 in
theorem newBwd_yes (v : Value) (B : List Int) (w : World) (hv : RdI .u8 w v B) (hl : B.length ≤ 1000000) (hby : ∀ x ∈ B,0 ≤ x ∧ x ≤ 255) (hb : B.getD (B.length - 1) 0 ≠ 0) :
  Calls Tryz.prog 188 #[v] w fun e w' => ∃ R g,e = .returned (.tuple #[.pointer (some ⟨R,0,none⟩),.int .i64 0]) ∧ BitR w' R g 259 B 0 (topB B) ∧ w.heap.size ≤ R ∧ w.heap.size ≤ g ∧ Keeps w w' [] := by
 have HC := Lib.hid (fun w1 (k : Keeps w w1 []) => cloneb_any v B w1 (hv.keeps k) hl)
 obtain ⟨A0,n,cp0,rfl,hnl,-⟩ := hv.form
 have hn0 : n ≠ 0 := fun h0 => by
  subst h0
  have : B = [] := List.eq_nil_of_length_eq_zero hnl.symm
  subst this
  exact hb rfl
 obtain ⟨m,rfl⟩ : ∃ m,n = m + 1 := ⟨n - 1,by omega⟩
 obtain ⟨y,hy⟩ : ∃ y,B[m]? = some y := ⟨_,List.getElem?_eq_getElem (by omega)⟩
 have HY : B.getD (B.length - 1) 0 = y := by
  rw [← hnl,Nat.add_sub_cancel,List.getD_eq_getElem?_getD,hy];rfl
 obtain ⟨y1,y2⟩ := hby y (List.mem_of_getElem? hy)
 obtain ⟨yn,rfl⟩ := Int.eq_ofNat_of_zero_le y1
 have hyn : yn ≤ 255 := by omega
 have hyz : yn ≠ 0 := fun h0 => hb (by rw [HY,h0];rfl)
 obtain ⟨bl1,bl2⟩ := bitLen8 ⟨yn,by omega⟩
 replace bl2 := bl2 hyz
 dsimp only at bl1 bl2
 have HTOP : Hid (topB B = 8 * (m + 1) + Lib.bitLen yn - 9 ∧ topB B ≤ 8 * B.length) := by
  have e : topB B = 8 * (m + 1) + Lib.bitLen yn - 9 := by rw [topB,HY,hnl,Int.toNat_natCast]
  exact ⟨e,by rw [e];omega⟩
 have HL8 := Lib.hid (fun w1 => Tryz.bits_Len8 (yn : Int) w1 y1 y2)
 simp only [Int.toNat_natCast] at HL8
 obtain ⟨bb,o,rfl,hbb,-⟩ := hv.at hy
 have hcap := hv.cap
 have HCELL := Lib.hid (fun w9 (k : Keeps w w9 []) => (by
  obtain ⟨b',o',e',-,hc'⟩ := (hv.keeps k).at hy
  cases e'
  exact hc' : w9.cell? ⟨bb,o + m,none⟩ = some (.int .u8 (yn : Int))))
 have hm : m ≤ 1000000 := by omega
 have hz : ((m : Int) + 1 == 0) = false := by simp;omega
 have hyb : ((yn : Int) == 0) = false := by simp;omega
 have hmm0 : (0 : Int) ≤ (m : Int) := by omega
 have hmm1 : (m : Int) < (m : Int) + 1 := by omega
 have hmm2 : (m : Int) < ((m + 1 : Nat) : Int) := by omega
 obtain ⟨L8,hL8⟩ : ∃ L,Lib.bitLen yn = L := ⟨_,rfl⟩
 rw [hL8] at bl1 bl2 HTOP HL8
 obtain ⟨X8,hX8⟩ : ∃ D : Int,8 * ((m : Int) + 1) = D := ⟨_,rfl⟩
 obtain ⟨X9,hX9⟩ : ∃ D : Int,X8 - 9 = D := ⟨_,rfl⟩
 obtain ⟨XT,hXT⟩ : ∃ D : Int,X9 + (L8 : Int) = D := ⟨_,rfl⟩
 have m0 : IntKind.i64.wrap (m : Int) = (m : Int) := by simp [IntKind.wrap,IntKind.signed,IntKind.bits];omega
 have m1 : IntKind.i64.wrap X8 = X8 := by simp [IntKind.wrap,IntKind.signed,IntKind.bits];omega
 have m2 : IntKind.i64.wrap X9 = X9 := by simp [IntKind.wrap,IntKind.signed,IntKind.bits];omega
 have m3 : IntKind.i64.wrap XT = XT := by simp [IntKind.wrap,IntKind.signed,IntKind.bits];omega
 have HXT := Lib.hid (show XT = ((8 * (m + 1) + L8 - 9 : Nat) : Int) by omega)
 have HBY := Lib.hid (show B.length ≤ 1000000 ∧ ∀ x ∈ B,0 ≤ x ∧ x ≤ 255 from ⟨hl,hby⟩)
 obtain ⟨q0,-⟩ := (show w.cell? ⟨bb,o + m,none⟩ = some (.int .u8 (yn : Int)) ∧ True from ⟨HCELL.out w (Keeps.refl w []),trivial⟩)
 clear hv hnl hl hby hb hy HY hL8 hn0 hyz
 go_enter Tryz.func188,Tryz.ntmps188
 go_wp2_with fail
 clear q0
 refine wp_region_held_drew (S := (fun w' => Keeps w w' [])) (by kernel_rfl) (Keeps.refl w []).drew (fun hHeld => ?_)
 refine takeM 0 rfl (by intro w9 hSw;have q0 := HCELL.out w9 hSw;clear hSw;go_simp;(try with_reducible rfl)) ?_
 try simp only [Act.put,stA,stZ,stS]
 refine takeM 2 rfl (by intro w9 hSw;have q0 := HCELL.out w9 hSw;clear hSw;go_simp;(try with_reducible rfl)) ?_
 try simp only [Act.put,stA,stZ,stS]
 refine takeM 3 rfl (by intro w9 hSw;have q0 := HCELL.out w9 hSw;clear hSw;go_simp;(try with_reducible rfl)) ?_
 try simp only [Act.put,stA,stZ,stS]
 refine takeM 4 rfl (by intro w9 hSw;have q0 := HCELL.out w9 hSw;clear hSw;go_simp;(try with_reducible rfl)) ?_
 try simp only [Act.put,stA,stZ,stS]
 refine takeM 5 rfl (by intro w9 hSw;have q0 := HCELL.out w9 hSw;clear hSw;go_simp;(try with_reducible rfl)) ?_
 try simp only [Act.put,stA,stZ,stS]
 refine takeM 6 rfl (by intro w9 hSw;have q0 := HCELL.out w9 hSw;clear hSw;go_simp;(try with_reducible rfl)) ?_
 try simp only [Act.put,stA,stZ,stS]
 refine takeM 7 rfl (by intro w9 hSw;have q0 := HCELL.out w9 hSw;clear hSw;go_simp;(try with_reducible rfl)) ?_
 try simp only [Act.put,stA,stZ,stS]
 refine takeM 8 rfl (by intro w9 hSw;have q0 := HCELL.out w9 hSw;clear hSw;go_simp;(try with_reducible rfl)) ?_
 try simp only [Act.put,stA,stZ,stS]
 refine takeM 9 rfl (by intro w9 hSw;have q0 := HCELL.out w9 hSw;clear hSw;go_simp;(try with_reducible rfl)) ?_
 try simp only [Act.put,stA,stZ,stS]
 refine takeM 10 rfl (by intro w9 hSw;have q0 := HCELL.out w9 hSw;clear hSw;go_simp;(try with_reducible rfl)) ?_
 try simp only [Act.put,stA,stZ,stS]
 refine takeM 11 rfl (by intro w9 hSw;have q0 := HCELL.out w9 hSw;clear hSw;go_simp;(try with_reducible rfl)) ?_
 try simp only [Act.put,stA,stZ,stS]
 refine callL (i := 1) rfl (by kernel_rfl) (fun Kont hK => ?_)
 go_simp
 refine (HC.out _ hHeld).mono ?_;rintro e w3 ⟨v3,rfl,own3,kk⟩;obtain ⟨a3,c3,rfl⟩ := own_form own3;have kk3 := hHeld.then kk
 go_wp2_with fail
 refine hK.out _ _ ?_ (fun hHeld => ?_)
 ·(exact kk3)
 clear hK Kont
 refine callL (i := 12) rfl (by kernel_rfl) (fun Kont hK => ?_)
 go_simp
 refine (HL8.out _).mono ?_;rintro e w4 ⟨rfl,rfl⟩
 go_wp2_with fail
 refine hK.out _ _ ?_ (fun hHeld => ?_)
 ·(exact hHeld)
 clear hK Kont
 refine takeM 13 rfl (by intro w9 hSw;clear hSw;go_simp;(try with_reducible rfl)) ?_
 try simp only [Act.put,stA,stZ,stS]
 refine takeM 14 rfl (by intro w9 hSw;clear hSw;go_simp;(try with_reducible rfl)) ?_
 try simp only [Act.put,stA,stZ,stS]
 refine takeM 15 rfl (by intro w9 hSw;clear hSw;go_simp;(try with_reducible rfl)) ?_
 try simp only [Act.put,stA,stZ,stS]
 refine callL (i := 16) rfl (by kernel_rfl) (fun Kont hK => ?_)
 go_simp
 refine hK.out _ _ ?_ (fun hHeld => ?_)
 ·exact hHeld.alloc _
 clear hK Kont
 refine takeM 17 rfl (by intro w9 hSw;clear hSw;go_simp;(try with_reducible rfl)) ?_
 try simp only [Act.put,stA,stZ,stS]
 refine takeM 18 rfl (by intro w9 hSw;clear hSw;go_simp;(try with_reducible rfl)) ?_
 try simp only [Act.put,stA,stZ,stS]
 refine wpAnyH_done (by kernel_rfl) ?_ _
 go_wp2_with fail
 go_ret2
 have r1 := own_reads own3
 have hs1 := kk3.size
 have hlt : ∀ ad m c,Value.slice a3 B.length c3 = .slice (some ad) m c → w.heap.size ≤ ad.block ∧ ad.block < w4.heap.size := fun ad m c he => own3.lt ad.block (by cases he;rfl)
 obtain ⟨g,hg,hge,hgn⟩ : ∃ g,(∀ ad m c,Value.slice a3 B.length c3 = .slice (some ad) m c → ad.block = g) ∧ w.heap.size ≤ g ∧ g ≠ w4.heap.size := by
  cases a3 with
  | none => exact ⟨w4.heap.size + 1,(fun ad m c he => by cases he),by omega,by omega⟩
  | some ad => exact ⟨ad.block,(fun ad' m c he => by cases he;rfl),(hlt ad _ _ rfl).1,by have := (hlt ad _ _ rfl).2;omega⟩
 have eT : XT = ((topB B : Nat) : Int) := by rw [HXT.out,HTOP.out.1]
 rw [eT] at hHeld ⊢
 refine ⟨w4.heap.size,g,rfl,⟨⟨_,Blk.new w4 _ _,r1.keeps ((Keeps.refl w4 []).alloc _),hg⟩,hgn,HBY.out.1,HBY.out.2,Nat.zero_le _,HTOP.out.2⟩,hs1,hge,hHeld⟩
end

end Go.Proofs.YtcmagccfagijlaaGreat
