/-
  flow.Encode where the table is valid and all symbols have states. (Printed by mkZn.py.)
-/
import Derived.Test.YtcmagccfagijlaaGreatQ24
import Derived.Test.YtcmagccfagijlaaGreatQ22
import Derived.Test.YtcmagccfagijlaaGreatQ3
namespace Go.Proofs.YtcmagccfagijlaaGreat
set_option linter.unusedVariables false
set_option linter.unusedSimpArgs false
set_option linter.unusedSectionVars false
set_option maxRecDepth 100000
open Go.RowKit

attribute [local go_sem] Oper.semAt_some

structure EncI (w : World) (M C g : Nat) (norm : List Int) (sv : Value) (l : List Nat) (x y : Nat) (W : World) : Prop where
 b3 : Blk W (w.heap.size + 1) #[sv] 25
 b4 : Blk W (w.heap.size + 2) #[.slice none 0 0] 22
 b5 : Blk W (w.heap.size + 3) #[.int .i64 0] 33
 b6 : Blk W M #[.pointer (some ⟨C,0,none⟩)] 243
 b7 : Blk W (M + 1) #[.int .i64 0] 33
 b8 : Blk W (M + 3) #[.pointer (some ⟨M + 2,0,none⟩)] 143
 b9 : Blk W (M + 4) #[.int .i64 (x : Nat),.int .i64 (y : Nat)] 232
 cod : CodS W C g norm M
 rd : RdI .i64 W sv (castL l)
 old : ∀ ad n c,sv = .slice (some ad) n c → 0 < n → ad.block < w.heap.size
 lo : w.heap.size + 4 ≤ M
 kk : Keeps w W []
theorem EncI.keeps {w W W' : World} {M C g x y : Nat} {norm : List Int} {sv : Value} {l : List Nat} {S : List Nat} (h : EncI w M C g norm sv l x y W) (k : Keeps W W' S) (hS : ∀ b ∈ S,b = M + 2 ∨ M + 5 ≤ b) : EncI w M C g norm sv l x y W' := by
 have hn : ∀ b,b < M + 5 → b ≠ M + 2 → b ∉ S := fun b h1 h2 hm => by rcases hS b hm with h | h <;> omega
 have hl := h.lo
 exact ⟨h.b3.keeps k (hn _ (by omega) (by omega)),h.b4.keeps k (hn _ (by omega) (by omega)),h.b5.keeps k (hn _ (by omega) (by omega)),h.b6.keeps k (hn _ (by omega) (by omega)),h.b7.keeps k (hn _ (by omega) (by omega)),h.b8.keeps k (hn _ (by omega) (by omega)),h.b9.keeps k (hn _ (by omega) (by omega)),
  h.cod.keeps k (fun b hb => by rcases hS b hb with h | h <;> omega),h.rd.keepsS k (fun ad n c e h0 hm => by have := h.old ad n c e h0;rcases hS _ hm with h | h <;> omega),h.old,hl,h.kk.trans k (fun b hb hlt => by rcases hS b hb with h | h <;> omega)⟩
theorem EncI.put {w W W' : World} {M C g x y x' y' : Nat} {norm : List Int} {sv : Value} {l : List Nat} (h : EncI w M C g norm sv l x y W) (k : Keeps W W' [M + 4]) (hb : Blk W' (M + 4) #[.int .i64 (x' : Nat),.int .i64 (y' : Nat)] 232) : EncI w M C g norm sv l x' y' W' := by
 have hl := h.lo
 exact ⟨h.b3.keeps k (by simp;omega),h.b4.keeps k (by simp;omega),h.b5.keeps k (by simp;omega),h.b6.keeps k (by simp),h.b7.keeps k (by simp),h.b8.keeps k (by simp),hb,
  h.cod.keeps k (fun b hb => by have := List.mem_singleton.1 hb;omega),h.rd.keepsS k (fun ad n c e h0 hm => by have := h.old ad n c e h0;have := List.mem_singleton.1 hm;omega),h.old,hl,h.kk.trans k (fun b hb hlt => by have := List.mem_singleton.1 hb;omega)⟩
theorem EncI.err {w W : World} {M C g x y : Nat} {norm : List Int} {sv : Value} {l : List Nat} (h : EncI w M C g norm sv l x y W) : EncI w M C g norm sv l x y (W.setCell ⟨M + 1,0,none⟩ (.int .i64 0)) := by
 have hl := h.lo
 have k : Keeps W (W.setCell ⟨M + 1,0,none⟩ (.int .i64 0)) [M + 1] := (Keeps.refl W _).setCell (.inr (by simp)) _
 have h7 := h.b7.set 0 (.int .i64 0)
 exact ⟨h.b3.keeps k (by simp;omega),h.b4.keeps k (by simp;omega),h.b5.keeps k (by simp;omega),h.b6.keeps k (by simp),by simpa using h7,h.b8.keeps k (by simp),h.b9.keeps k (by simp),
  h.cod.keeps k (fun b hb => by have := List.mem_singleton.1 hb;omega),h.rd.keepsS k (fun ad n c e h0 hm => by have := h.old ad n c e h0;have := List.mem_singleton.1 hm;omega),h.old,hl,h.kk.trans k (fun b hb hlt => by have := List.mem_singleton.1 hb;omega)⟩
theorem WR.keepsT {w w' : World} {base Q : Nat} {L : List Bool} {S : List Nat} (h : WR w base Q L) (k : Keeps w w' S) (h1 : Q ∉ S) (h2 : ∀ x ∈ S,∀ cs z,w.heap[x]? ≠ some (.cells cs 5 z)) : WR w' base Q L := by
 obtain ⟨n,hn,h⟩ := h
 obtain ⟨a,c,N,BL,v,hb,own,hN,hv,hB,hL⟩ := h.form
 exact ⟨n,hn,⟨⟨a,c,N,BL,v,hb.keeps k h1,own_old own k (fun x hx hm => by obtain ⟨cs,z,hh⟩ := own_cellsB own x hx;exact h2 x hm cs z hh),hN,hv,hB,hL⟩,Nat.le_trans h.base k.size,h.small,h.len⟩⟩
def RowOut (W : World) (Q : Nat) (X : List Nat) : Prop := ∀ v0 v1 ad n c,Blk W Q #[v0,v1,.slice (some ad) n c] 187 → ad.block ∉ X
theorem RowOut.keeps {W W' : World} {Q : Nat} {X S : List Nat} (h : RowOut W Q X) (k : Keeps W W' S) (hq : Q < W.heap.size) (h1 : Q ∉ S) : RowOut W' Q X := fun v0 v1 ad n c hb => h v0 v1 ad n c ((k.block Q hq h1).symm.trans hb)
theorem WR.keepsO {w w' : World} {base Q : Nat} {L : List Bool} {X : List Nat} (h : WR w base Q L) (o : RowOut w Q X) (k : Keeps w w' X) (h1 : Q ∉ X) : WR w' base Q L := by
 obtain ⟨n,hn,h⟩ := h
 obtain ⟨a,c,N,BL,v,hb,own,hN,hv,hB,hL⟩ := h.form
 exact ⟨n,hn,⟨⟨a,c,N,BL,v,hb.keeps k h1,own_old own k (fun x hx hm => by
  cases a with
  | none => cases hx
  | some ad =>
   have hx' : ad.block = x := by simpa [Value.ownBlock] using hx
   exact o _ _ ad N c hb (hx' ▸ hm)),hN,hv,hB,hL⟩,Nat.le_trans h.base k.size,h.small,h.len⟩⟩
theorem WR.rowOut {w : World} {base Q : Nat} {L : List Bool} {X : List Nat} (h : WR w base Q L) (h2 : ∀ x ∈ X,∀ cs z,w.heap[x]? ≠ some (.cells cs 5 z)) : RowOut w Q X := by
 obtain ⟨n,hn,h⟩ := h
 obtain ⟨a,c,N,BL,v,hb,own,hN,hv,hB,hL⟩ := h.form
 intro v0 v1 ad n' c' hb' hm
 have e : (some (Obj.cells #[.int .u64 (v : Int),.int .i64 (n : Int),.slice a N c] 187 (0,0)) : Option Obj) = some (.cells #[v0,v1,.slice (some ad) n' c'] 187 (0,0)) := Eq.trans (Eq.symm hb) hb'
 injection e with e
 injection e with e _ _
 have e2 : Value.slice a N c = .slice (some ad) n' c' := by
  have := congrArg (fun x : Array Value => x[2]?) e
  simpa using this
 injection e2 with e3 _ _
 subst e3
 obtain ⟨cs,z,hh⟩ := own_cellsB own ad.block rfl
 exact h2 _ hm cs z hh
theorem res_two {fn : Func} {p q : Tmp} {T U : TypeId} (h : fn.results = #[.cell p T,.cell q U]) {tmps : Array Value} {P : Program} {w : World} {a b : Addr} {v u : Value} (ht : tmps.getD p undef = .pointer (some a)) (hu : tmps.getD q undef = .pointer (some b)) (hl : (loadVar T a).run P w = .ok v w) (hm : (loadVar U b).run P w = .ok u w) :
  (results fn tmps).run P w = .ok (.tuple #[v,u]) w := by
 have ht' : tmps[p]?.getD undef = .pointer (some a) := by simpa using ht
 have hu' : tmps[q]?.getD undef = .pointer (some b) := by simpa using hu
 simp [results,h,Sem.run_bind,Result.andThen,ht',hu',asAddr,hl,hm]
theorem load_err1 {w : World} {b : Nat} {n : Int} (h : Blk w b #[.int .i64 n] 33) : (loadVar 33 ⟨b,0,none⟩).run Tryz.prog w = .ok (.int .i64 n) w := by
 obtain ⟨c0,-⟩ := h.one
 go_simp
theorem load_byt1 {w : World} {b : Nat} {a : Option Addr} {n c : Nat} (h : Blk w b #[.slice a n c] 22) : (loadVar 22 ⟨b,0,none⟩).run Tryz.prog w = .ok (.slice a n c) w := by
 obtain ⟨c0,-⟩ := h.one
 go_simp
def tailB (g : Nat) (pre : List (Nat × Int)) : List Bool := pre.flatMap (fun x => bitsN x.2.toNat g)
theorem tailB_snoc (g : Nat) (pre : List (Nat × Int)) (i v : Nat) : tailB g (pre ++ [(i,(v : Int))]) = tailB g pre ++ bitsN v g := by simp [tailB]
theorem tailB_len (g : Nat) (pre : List (Nat × Int)) : (tailB g pre).length = g * pre.length := by
 induction pre with
 | nil => simp [tailB]
 | cons x pre ih =>
  have e : tailB g (x :: pre) = bitsN x.2.toNat g ++ tailB g pre := rfl
  rw [e,List.length_append,ih,bitsN_len,List.length_cons,Nat.mul_succ]
  omega
def tlE (E O m : Nat) : List Int := ([(E : Int),(O : Int)]).take m
theorem tlE_len {E O m : Nat} (h : m ≤ 2) : (tlE E O m).length = m := by simp [tlE];omega
theorem tlE_all {E O n m g : Nat} (h : min n 2 = m) : tailB g (upto (bacF (tlE E O m)) (tlE E O m).length) = (if 2 ≤ n then bitsN O g else []) ++ (if 1 ≤ n then bitsN E g else []) := by
 have h3 : m = 0 ∨ m = 1 ∨ m = 2 := by omega
 rcases h3 with rfl | rfl | rfl
 ·rw [if_neg (by omega),if_neg (by omega)];rfl
 ·rw [if_neg (by omega),if_pos (by omega)]
  simp [tlE,upto,bacF,tailB]
 ·rw [if_pos (by omega),if_pos (by omega)]
  simp [tlE,upto,bacF,tailB,List.range_succ]
theorem tlE_reads {W : World} {p E O m : Nat} (h : Blk W p #[.int .i64 (E : Int),.int .i64 (O : Int)] 232) (hm : m ≤ 2) : RdI .i64 W (.slice (some ⟨p,0,none⟩) m 2) (tlE E O m) := by
 refine ⟨_,_,_,rfl,(tlE_len hm).symm,(fun e => by cases e),fun h0 => ⟨hm,p,0,rfl,h.lt,fun i x hx => ?_⟩⟩
 have hi := (List.getElem?_eq_some_iff.1 hx).1
 rw [tlE_len hm] at hi
 have c0 := h.cell 0
 have c1 := h.cell 1
 simp at c0 c1
 rw [tlE,List.getElem?_take_of_lt hi] at hx
 have h2 : i = 0 ∨ i = 1 := by omega
 rcases h2 with rfl | rfl
 ·simp at hx;subst hx;simpa using c0
 ·simp at hx;subst hx;simpa using c1
theorem tlE_get {E O m q : Nat} {x : Int} (hx : (tlE E O m)[q]? = some x) : ∃ v : Nat,x = (v : Int) ∧ (v = E ∨ v = O) := by
 have := List.mem_of_getElem? hx
 unfold tlE at this
 have := List.mem_of_mem_take this
 simp at this
 rcases this with h | h
 ·exact ⟨E,h,.inl rfl⟩
 ·exact ⟨O,h,.inr rfl⟩
theorem predV_lt (g : Nat) (norm : List Int) (z s : Nat) : predV g norm z s < 2 ^ predB g norm z s := Nat.mod_lt _ (Nat.two_pow_pos _)
theorem bacF_cast {l : List Nat} {j q s : Nat} (hq : l.length - 1 - j = q) (hs : l[q]? = some s) : bacF (castL l) j = (q,(s : Int)) := by
 unfold bacF castL
 rw [List.length_map,hq,List.getElem?_map,hs]
 rfl
def WrN (W : World) (base Q : Nat) (L : List Bool) : Prop := (L = [] ∧ Blk W Q #[.int .u64 0,.int .i64 0,.slice none 0 0] 187) ∨ WR W base Q L
theorem WrN.wr {W : World} {base Q : Nat} {L : List Bool} (h : WrN W base Q L) (hb : base ≤ W.heap.size) : WR W base Q L := by
 rcases h with ⟨rfl,h⟩ | h
 ·exact .new h hb
 ·exact h
theorem WrN.keeps {W W' : World} {base Q : Nat} {L : List Bool} {S : List Nat} (h : WrN W base Q L) (k : Keeps W W' S) (h1 : Q ∉ S) (h2 : ∀ x ∈ S,x < base) : WrN W' base Q L := by
 rcases h with ⟨rfl,h⟩ | h
 ·exact .inl ⟨rfl,h.keeps k h1⟩
 ·exact .inr (h.keeps k h1 h2)

theorem backwardI_any (a : Option Addr) (n c : Nat) (w : World) : Calls Tryz.prog 204 #[.slice a n c] w fun e w' => e = .returned (.func (.func 217) #[] #[.pointer (some ⟨w.heap.size,0,none⟩)]) ∧ w' = w.alloc (.cells #[.slice a n c] 25) := by
 go_enter Tryz.func204,Tryz.ntmps204
 go_wp2_with fail
 go_ret
 exact ⟨rfl,rfl⟩
theorem blkOf_lt {k : IntKind} {w : World} {v : Value} {l : List Int} (h : RdI k w v l) : ∀ j ∈ blkOf v,j < w.heap.size := by
 obtain ⟨a,n,c,rfl,-⟩ := h.form
 intro j hj
 cases a with
 | none => simp [blkOf] at hj
 | some ad =>
  by_cases h0 : 0 < n
  ·simp [blkOf,h0] at hj
   obtain ⟨b,o,he,hb,-⟩ := h.addr h0
   cases he
   subst hj
   exact hb
  ·simp [blkOf,h0] at hj

set_option maxHeartbeats 8000000 in
theorem fenc_ok (g : Nat) (nv sv : Value) (norm : List Int) (l : List Nat) (w : World) (hv : RdI .i64 w nv norm) (hb : ∀ x ∈ norm,-9223372036854775808 ≤ x ∧ x ≤ 9223372036854775807) (hok : TblOk g norm) (hok' : okN (g : Int) norm 256 9 = true)
  (hs : RdI .i64 w sv (castL l)) (hsy : symsOk norm l) (hl : l.length ≤ 100000) :
  Calls Tryz.prog 178 #[.agg #[.int .i64 (g : Int),nv],sv] w fun e w' => ∃ v',e = .returned (.tuple #[v',.int .i64 0]) ∧ OwnB w' w.heap.size v' (flowE g norm l) ∧ Keeps w w' [] := by
 obtain ⟨A0,m,cp0,rfl,hnl,-⟩ := hv.form
 obtain ⟨A1,n,cp1,rfl,hn,-⟩ := hs.form
 have hnl' : n = l.length := by rw [hn];exact castL_len l
 have k0 : Keeps w (((((w.alloc (.cells #[.int .i64 (g : Int),.slice A0 m cp0] 27)).alloc (.cells #[.slice A1 n cp1] 25)).alloc (.cells #[.slice none 0 0] 22)).alloc (.cells #[.int .i64 0] 33))) [] := ((((Keeps.refl w []).alloc _).alloc _).alloc _).alloc _
 have q2 := (((Blk.new w #[.int .i64 (g : Int),.slice A0 m cp0] 27).alloc (.cells #[.slice A1 n cp1] 25)).alloc (.cells #[.slice none 0 0] 22)).alloc (.cells #[.int .i64 0] 33)
 have q3 := ((Blk.new (w.alloc (.cells #[.int .i64 (g : Int),.slice A0 m cp0] 27)) #[.slice A1 n cp1] 25).alloc (.cells #[.slice none 0 0] 22)).alloc (.cells #[.int .i64 0] 33)
 have q4 := (Blk.new ((w.alloc (.cells #[.int .i64 (g : Int),.slice A0 m cp0] 27)).alloc (.cells #[.slice A1 n cp1] 25)) #[.slice none 0 0] 22).alloc (.cells #[.int .i64 0] 33)
 have q5 := Blk.new (((w.alloc (.cells #[.int .i64 (g : Int),.slice A0 m cp0] 27)).alloc (.cells #[.slice A1 n cp1] 25)).alloc (.cells #[.slice none 0 0] 22)) #[.int .i64 0] 33
 simp only [World.size_alloc] at q3 q4 q5
 have HC := Lib.hid (snew_ok g _ norm _ (hv.keeps k0) hb hok hok')
 have hbig : decide ((131072 : Int) < (n : Int)) = false := decide_eq_false (by omega)
 have hbigN : decide (131072 < n) = false := decide_eq_false (by omega)
 have HOLD : Hid (∀ ad m c,(Value.slice A1 n cp1) = .slice (some ad) m c → 0 < m → ad.block < w.heap.size) := Lib.hid (fun ad m c e h0 => by
  cases e
  obtain ⟨b,o,he,hb,-⟩ := hs.addr h0
  cases he
  exact hb)
 have HSV := Lib.hid hs
 have HNL := Lib.hid hnl'
 have HSY := Lib.hid hsy
 have HOK := Lib.hid hok
 have HLL := Lib.hid hl
 have K0 := Lib.hid k0
 clear hv hs hn hnl hok hok' hsy hl hnl' hb k0
 refine calls_of_marks Tryz.func178 rfl ?_
 simp only [Tryz.ntmps178,List.size_toArray,List.length_cons,List.length_nil,Nat.reduceAdd,Nat.reduceSub,Array.replicate_succ,Array.replicate_zero,List.push_toArray,List.append_toArray,List.nil_append,List.cons_append]
 go_wp2_with (first
  | (go_at_call 203;(refine HC.out.mono ?_;rintro e w1 ⟨C,rfl,hC1,hC2,k1⟩;replace q2 := q2.keeps k1 (by simp);replace q3 := q3.keeps k1 (by simp);replace q4 := q4.keeps k1 (by simp);replace q5 := q5.keeps k1 (by simp);have K1 := Lib.hid (K0.out.then k1);obtain ⟨c3,-⟩ := q3.one;have hs1 := k1.size;simp only [World.size_alloc] at hs1;have hlw : w.heap.size + 1 < w1.heap.size := (by omega);have hlw0 : w.heap.size < w1.heap.size := (by omega);have HS1 := Lib.hid hs1;clear k1 hC1 hs1))
  | (go_at_call 204;(refine (backwardI_any _ _ _ _).mono ?_;rintro e w2 ⟨rfl,rfl⟩)))
 obtain ⟨M,hM⟩ : ∃ M,w1.heap.size = M := ⟨_,rfl⟩
 obtain ⟨WB,hWB⟩ : ∃ W,W = (((((w1.alloc (.cells #[.pointer (some ⟨C,0,none⟩)] 243)).alloc (.cells #[.int .i64 0] 33)).alloc (.cells #[.int .u64 0,.int .i64 0,.slice none 0 0] 187)).alloc (.cells #[.pointer (some ⟨w1.heap.size + 1 + 1,0,none⟩)] 143)).alloc (.cells #[.int .i64 0,.int .i64 0] 232)).alloc (.cells #[.slice A1 n cp1] 25) := ⟨_,rfl⟩
 have HWB : WB.heap.size = M + 6 ∧ Keeps w1 WB [] ∧ Blk WB M #[.pointer (some ⟨C,0,none⟩)] 243 ∧ Blk WB (M + 1) #[.int .i64 0] 33 ∧ Blk WB (M + 2) #[.int .u64 0,.int .i64 0,.slice none 0 0] 187 ∧ Blk WB (M + 3) #[.pointer (some ⟨M + 2,0,none⟩)] 143 ∧ Blk WB (M + 4) #[.int .i64 0,.int .i64 0] 232 ∧ Blk WB (M + 5) #[.slice A1 n cp1] 25 := by
  rw [hWB]
  refine ⟨by simp [hM],((((((Keeps.refl w1 []).alloc _).alloc _).alloc _).alloc _).alloc _).alloc _,?_,?_,?_,?_,?_,?_⟩
  ·exact hM ▸ (((((Blk.new w1 _ _).alloc _).alloc _).alloc _).alloc _).alloc _
  ·have := ((((Blk.new (w1.alloc (.cells #[.pointer (some ⟨C,0,none⟩)] 243)) #[.int .i64 0] 33).alloc (.cells #[.int .u64 0,.int .i64 0,.slice none 0 0] 187)).alloc (.cells #[.pointer (some ⟨w1.heap.size + 1 + 1,0,none⟩)] 143)).alloc (.cells #[.int .i64 0,.int .i64 0] 232)).alloc (.cells #[.slice A1 n cp1] 25)
   simp only [World.size_alloc,hM] at this ⊢
   exact this
  ·have := (((Blk.new ((w1.alloc (.cells #[.pointer (some ⟨C,0,none⟩)] 243)).alloc (.cells #[.int .i64 0] 33)) #[.int .u64 0,.int .i64 0,.slice none 0 0] 187).alloc (.cells #[.pointer (some ⟨w1.heap.size + 1 + 1,0,none⟩)] 143)).alloc (.cells #[.int .i64 0,.int .i64 0] 232)).alloc (.cells #[.slice A1 n cp1] 25)
   simp only [World.size_alloc,hM] at this ⊢
   exact this
  ·have := ((Blk.new (((w1.alloc (.cells #[.pointer (some ⟨C,0,none⟩)] 243)).alloc (.cells #[.int .i64 0] 33)).alloc (.cells #[.int .u64 0,.int .i64 0,.slice none 0 0] 187)) #[.pointer (some ⟨w1.heap.size + 1 + 1,0,none⟩)] 143).alloc (.cells #[.int .i64 0,.int .i64 0] 232)).alloc (.cells #[.slice A1 n cp1] 25)
   simp only [World.size_alloc,hM] at this ⊢
   exact this
  ·have := (Blk.new ((((w1.alloc (.cells #[.pointer (some ⟨C,0,none⟩)] 243)).alloc (.cells #[.int .i64 0] 33)).alloc (.cells #[.int .u64 0,.int .i64 0,.slice none 0 0] 187)).alloc (.cells #[.pointer (some ⟨w1.heap.size + 1 + 1,0,none⟩)] 143)) #[.int .i64 0,.int .i64 0] 232).alloc (.cells #[.slice A1 n cp1] 25)
   simp only [World.size_alloc,hM] at this ⊢
   exact this
  ·have := Blk.new (((((w1.alloc (.cells #[.pointer (some ⟨C,0,none⟩)] 243)).alloc (.cells #[.int .i64 0] 33)).alloc (.cells #[.int .u64 0,.int .i64 0,.slice none 0 0] 187)).alloc (.cells #[.pointer (some ⟨w1.heap.size + 1 + 1,0,none⟩)] 143)).alloc (.cells #[.int .i64 0,.int .i64 0] 232)) #[.slice A1 n cp1] 25
   simp only [World.size_alloc,hM] at this ⊢
   exact this
 rw [← hWB]
 rw [hM] at hC2 hlw hlw0 HS1 ⊢
 obtain ⟨hsz,kB,p0,p1,p2,p3,p4,p5⟩ := HWB
 obtain ⟨t1,t2,t3⟩ := two_fin g norm l
 have hM4 : w.heap.size + 4 ≤ M := HS1.out
 have ENC0 : EncI w M C g norm (.slice A1 n cp1) l (twoE g norm l l.length) (twoO g norm l l.length) WB := by
  rw [t1,t2]
  exact ⟨q3.keeps kB (by simp),q4.keeps kB (by simp),q5.keeps kB (by simp),p0,p1,p3,p4,hC2.keeps kB (fun x hx => by cases hx),HSV.out.keeps (K1.out.then kB),HOLD.out,hM4,K1.out.then kB⟩
 have hseq := backZ (M + 5) (.slice A1 n cp1) (castL l) WB p5 (HSV.out.keeps (K1.out.then kB)) (by have := HLL.out;rw [castL_len];omega)
 have HBL := Lib.hid (blkOf_lt HSV.out)
 have HCL : Hid ((castL l).length = l.length) := Lib.hid (castL_len l)
 clear hWB kB p0 p1 p3 p4 p5 c3 q2 q3 q4 q5 HC K0 K1 hC2 hM
 refine range_PZ (gf := 217) (lb := #[.pointer (some ⟨M + 5,0,none⟩)]) rfl (enters_of Tryz.func217 (by kernel_rfl) rfl)
  hseq ?hX (fun _ => rfl) 0
  (fun pre W => ∃ j : Nat,j ≤ l.length ∧ pre = upto (bacF (castL l)) j ∧ EncI w M C g norm (.slice A1 n cp1) l (twoE g norm l (l.length - j)) (twoO g norm l (l.length - j)) W ∧ WrN W (M + 8) (M + 2) (bitE g norm l (l.length - j)) ∧ M + 8 ≤ W.heap.size + 2)
  (fun pre W => False)
  (fun W => EncI w M C g norm (.slice A1 n cp1) l (twoE g norm l 0) (twoO g norm l 0) W ∧ WrN W (M + 8) (M + 2) (bitE g norm l 0) ∧ M + 6 ≤ W.heap.size)
  ?hI ?hIx ?h0 ?hround ?hdone ?hstop ?hex ?hrest
 case hX =>
  intro j hj
  rcases List.mem_append.1 hj with hj | hj
  ·have := List.mem_singleton.1 hj;omega
  ·have := HBL.out j hj;omega
 case hI =>
  rintro s A B' ⟨j,h1,h2,h3,h4,h5⟩ hab
  rw [hsz] at hab
  exact ⟨j,h1,h2,h3.keeps hab (fun b hb => by simp at hb;omega),h4.keeps hab (by simp) (fun b hb => by simp at hb;omega),by have := hab.size;omega⟩
 case hIx => exact fun s A B' h _ => h
 case hstop => exact fun pre X' _ h => h.elim
 case hex => exact fun a' W h => by simpa [Exit.inBlock,Exit.noGoto] using h
 case h0 => exact ⟨0,Nat.zero_le _,rfl,ENC0,.inl ⟨t3,p2⟩,by omega⟩
 case hdone =>
  rintro xs W hS ⟨j,h1,h2,h3,h4,h5⟩
  have hj : j = l.length := by
   rw [h2] at hS
   simpa [upto_length,HCL.out] using congrArg List.length hS
  subst hj
  rw [Nat.sub_self] at h3 h4
  exact ⟨h3,h4,by omega⟩
 case hround =>
  rintro l' pre x W hl hlt hD hF ⟨j,hjl,rfl,enc,wrn,hszW⟩ hsp
  obtain ⟨hj,rfl⟩ := upto_next hsp
  rw [HCL.out] at hj
  subst hl
  rw [hsz] at hlt hD
  obtain ⟨q,hq⟩ : ∃ q,l.length - 1 - j = q := ⟨_,rfl⟩
  have hql : q < l.length := by omega
  obtain ⟨s,hs⟩ : ∃ s,l[q]? = some s := ⟨_,List.getElem?_eq_getElem hql⟩
  have hq1 : l.length - j = q + 1 := by omega
  have hq2 : l.length - (j + 1) = q := by omega
  have HUP := Lib.hid (upto_succ (bacF (castL l)) j)
  have wr := wrn.wr (by omega)
  rw [bacF_cast hq hs] at HUP ⊢
  rw [hq1] at enc wr
  obtain ⟨s1,s2⟩ := HSY.out s (List.mem_of_getElem? hs)
  have pl := (predB_ok HOK.out s1 s2 (show 0 < 2 ^ g from Nat.two_pow_pos g)).1
  have HSZ := Lib.hid hsz
  clear hsz t1 t2 t3
  have HQS := Lib.hid (show _ ∧ _ ∧ _ ∧ _ ∧ _ ∧ _ from ⟨hq,hq1,hq2,hs,s2,hj⟩)
  clear hq hq1 hq2 hs s2 hj
  gi_wp2
  refine ⟨SameAt.refl _ _,fun W2 hT => ?_⟩
  obtain ⟨hq,hq1,hq2,hs,s2,hj⟩ := HQS.out
  have hnn : n = l.length := HNL.out
  have hsz := HSZ.out
  rw [hsz] at hT
  have kT := hT.keeps
  have hszT := hT.size
  have enc2 := enc.keeps kT (fun b hb => by have := List.mem_singleton.1 hb;omega)
  have wr2 := wr.keeps kT (by simp) (fun b hb => by have := List.mem_singleton.1 hb;omega)
  obtain ⟨c3,-⟩ := enc2.b3.one
  obtain ⟨c6,-⟩ := enc2.b6.one
  obtain ⟨c7,f7⟩ := enc2.b7.one
  obtain ⟨c8,-⟩ := enc2.b8.one
  have ENC2 := Lib.hid enc2
  have WR2 := Lib.hid wr2
  have HS2 := Lib.hid (show M + 8 ≤ W2.heap.size by omega)
  have HU : Hid (∀ k ∈ [M + 5] ++ blkOf (.slice A1 n cp1) ++ [WB.heap.size,WB.heap.size + 1],k < w.heap.size ∨ k = M + 5 ∨ k = M + 6 ∨ k = M + 7) := Lib.hid (fun k hk => by
   rcases List.mem_append.1 hk with hk | hk
   ·rcases List.mem_append.1 hk with hk | hk
    ·exact .inr (.inl (List.mem_singleton.1 hk))
    ·exact .inl (HBL.out k hk)
   ·rw [hsz] at hk
    simp only [List.mem_cons,List.not_mem_nil,or_false] at hk
    omega)
  have HQ := Lib.hid (show q + 1 ≤ n ∧ l.length - (j + 1) = q ∧ l[q]? = some s ∧ j + 1 ≤ l.length from ⟨by omega,hq2,hs,by omega⟩)
  by_cases h2 : n ≤ q + 2
  ·obtain ⟨Q2,hQ2⟩ : ∃ Q : Int,(q : Int) + 2 = Q := ⟨_,rfl⟩
   have hwq : wrap64 Q2 = Q2 := by have := HLL.out;exact IntWalk.wrap64_in _ ⟨by omega,by omega⟩
   have h2I : (n : Int) ≤ Q2 := by omega
   have HLO := Lib.hid (clowest_any C g M s norm W2 enc2.cod HOK.out.g9 s1 HOK.out.len pl)
   rcases Nat.mod_two_eq_zero_or_one q with hpar | hpar
   ·have hpI : (q : Int) % 2 = 0 := by omega
    obtain ⟨e1,e2,e3⟩ := two_last_even (g := g) (norm := norm) hs (by omega) hpar
    have HE := Lib.hid (show _ ∧ _ ∧ _ from ⟨e1,e2,e3⟩)
    obtain ⟨LW,hLW⟩ : ∃ x,lowN g norm s = x := ⟨_,rfl⟩
    have HLW := Lib.hid hLW
    rw [hLW] at HLO
    have c9 := enc2.b9.cell 0
    simp at c9
    have f9 := enc2.b9.frozen 0
    clear enc enc2 wr wr2 wrn hT hsp hs hq hq1 hq2 hj hjl hszW hD hlt kT e1 e2 e3 s1 s2 pl hF hLW hnn hsz
    gi_wp2_with (refine ⟨trivial,?_⟩;gi_at_call 205;(refine (calls_in HLO.out).mono ?_;rintro e w5 ⟨rfl,rfl⟩))
    obtain ⟨e1,e2,e3⟩ := HE.out
    have kset : Keeps w5 (w5.setCell ⟨M + 4,0,none⟩ (.int .i64 (LW : Int))) [M + 4] := (Keeps.refl w5 _).setCell (.inr (by simp)) _
    have b9 := ENC2.out.b9.set 0 (.int .i64 (LW : Int))
    have enc5 : EncI w M C g norm (.slice A1 n cp1) l (twoE g norm l q) (twoO g norm l q) (w5.setCell ⟨M + 4,0,none⟩ (.int .i64 (LW : Int))) := by
     rw [e1,e2,HLW.out]
     exact ENC2.out.put kset (by simpa using b9)
    have hHQ := HQ.out
    have kk5 : Keeps w5 ((w5.setCell ⟨M + 4,0,none⟩ (.int .i64 (LW : Int))).setCell ⟨M + 1,0,none⟩ (.int .i64 0)) [M + 4,M + 1] := ((Keeps.refl w5 _).setCell (.inr (by simp)) _).setCell (.inr (by simp)) _
    have hS := HS2.out
    refine ⟨SameAt.of kk5 (fun k hk => by have := HU.out k hk;omega) (fun k hk hm => by have := HU.out k hk;simp only [List.mem_cons,List.not_mem_nil,or_false] at hm;omega),j + 1,hHQ.2.2.2,HUP.out.symm,?_,?_,?_⟩
    ·rw [hHQ.2.1]
     exact enc5.err
    ·rw [hHQ.2.1,e3]
     exact .inr (WR2.out.keeps kk5 (by simp) (fun k hk => by simp only [List.mem_cons,List.not_mem_nil,or_false] at hk;omega))
    ·exact Nat.le_trans (show M + 8 ≤ w5.heap.size + 2 by omega) (Nat.add_le_add_right kk5.size 2)
   ·have hpI : (q : Int) % 2 = 1 := by omega
    obtain ⟨e1,e2,e3⟩ := two_last_odd (g := g) (norm := norm) hs (by omega) hpar
    have HE := Lib.hid (show _ ∧ _ ∧ _ from ⟨e1,e2,e3⟩)
    obtain ⟨LW,hLW⟩ : ∃ x,lowN g norm s = x := ⟨_,rfl⟩
    have HLW := Lib.hid hLW
    rw [hLW] at HLO
    have c9 := enc2.b9.cell 1
    simp at c9
    have f9 := enc2.b9.frozen 1
    clear enc enc2 wr wr2 wrn hT hsp hs hq hq1 hq2 hj hjl hszW hD hlt kT e1 e2 e3 s1 s2 pl hF hLW hnn hsz
    gi_wp2_with (refine ⟨trivial,?_⟩;gi_at_call 205;(refine (calls_in HLO.out).mono ?_;rintro e w5 ⟨rfl,rfl⟩))
    obtain ⟨e1,e2,e3⟩ := HE.out
    have kset : Keeps w5 (w5.setCell ⟨M + 4,1,none⟩ (.int .i64 (LW : Int))) [M + 4] := (Keeps.refl w5 _).setCell (.inr (by simp)) _
    have b9 := ENC2.out.b9.set 1 (.int .i64 (LW : Int))
    have enc5 : EncI w M C g norm (.slice A1 n cp1) l (twoE g norm l q) (twoO g norm l q) (w5.setCell ⟨M + 4,1,none⟩ (.int .i64 (LW : Int))) := by
     rw [e1,e2,HLW.out]
     exact ENC2.out.put kset (by simpa using b9)
    have hHQ := HQ.out
    have kk5 : Keeps w5 ((w5.setCell ⟨M + 4,1,none⟩ (.int .i64 (LW : Int))).setCell ⟨M + 1,0,none⟩ (.int .i64 0)) [M + 4,M + 1] := ((Keeps.refl w5 _).setCell (.inr (by simp)) _).setCell (.inr (by simp)) _
    have hS := HS2.out
    refine ⟨SameAt.of kk5 (fun k hk => by have := HU.out k hk;omega) (fun k hk hm => by have := HU.out k hk;simp only [List.mem_cons,List.not_mem_nil,or_false] at hm;omega),j + 1,hHQ.2.2.2,HUP.out.symm,?_,?_,?_⟩
    ·rw [hHQ.2.1]
     exact enc5.err
    ·rw [hHQ.2.1,e3]
     exact .inr (WR2.out.keeps kk5 (by simp) (fun k hk => by simp only [List.mem_cons,List.not_mem_nil,or_false] at hk;omega))
    ·exact Nat.le_trans (show M + 8 ≤ w5.heap.size + 2 by omega) (Nat.add_le_add_right kk5.size 2)
  ·obtain ⟨Q2,hQ2⟩ : ∃ Q : Int,(q : Int) + 2 = Q := ⟨_,rfl⟩
   have hwq : wrap64 Q2 = Q2 := by have := HLL.out;exact IntWalk.wrap64_in _ ⟨by omega,by omega⟩
   have h2I : decide ((n : Int) ≤ Q2) = false := decide_eq_false (by omega)
   have h2P : ¬ (n : Int) ≤ Q2 := by omega
   rcases Nat.mod_two_eq_zero_or_one q with hpar | hpar
   ·have hpI : (q : Int) % 2 = 0 := by omega
    have hpT : (q : Int).tmod 2 = 0 := by rw [Int.tmod_eq_emod_of_nonneg (by omega)];exact hpI
    obtain ⟨e1,e2,e3⟩ := two_more_even (g := g) (norm := norm) hs (by omega) hpar
    have hz := (two_lt HOK.out HSY.out (q + 1)).1
    obtain ⟨b1,b2,b3,b4⟩ := predB_ok HOK.out s1 s2 hz
    have hVL := predV_lt g norm (twoE g norm l (q + 1)) s
    have HE := Lib.hid (show _ ∧ _ ∧ _ from ⟨e1,e2,e3⟩)
    obtain ⟨Zn,hZn⟩ : ∃ x,twoE g norm l (q + 1) = x := ⟨_,rfl⟩
    rw [hZn] at hz b4 hVL enc2
    have HPR := Lib.hid (fun W (k : Keeps W2 W []) => cpred_any C g M Zn s norm W (enc2.cod.keeps k (fun x hx => by cases hx)) HOK.out hz s1 s2)
    obtain ⟨SS,hSS⟩ : ∃ x,predS g norm Zn s = x := ⟨_,rfl⟩
    obtain ⟨VV,hVV⟩ : ∃ x,predV g norm Zn s = x := ⟨_,rfl⟩
    obtain ⟨NN,hNN⟩ : ∃ x,predB g norm Zn s = x := ⟨_,rfl⟩
    rw [hVV,hNN] at hVL
    rw [hNN] at b4
    rw [hSS,hVV,hNN] at HPR
    have hbl := encG_bits HOK.out (symsOk_drop HSY.out (q + 1))
    have HSS := Lib.hid (show _ ∧ _ ∧ _ ∧ _ ∧ VV < 2 ^ NN ∧ NN ≤ 9 ∧ (bitE g norm l (q + 1)).length ≤ 1000000 from ⟨hZn,hSS,hVV,hNN,hVL,Nat.le_trans b4 HOK.out.g9,by unfold bitE;rw [List.length_drop] at hbl;have := HLL.out;omega⟩)
    have k3 : Keeps W2 (W2.alloc (.cells #[.int .i64 0,.int .u64 0,.int .i64 0] 250)) [] := (Keeps.refl W2 []).alloc _
    have enc3 := Lib.hid (enc2.keeps k3 (fun x hx => by cases hx))
    have wr3 := Lib.hid (wr2.keeps0 k3)
    have bx3 := Lib.hid (Blk.new W2 #[.int .i64 0,.int .u64 0,.int .i64 0] 250)
    have K3 := Lib.hid k3
    clear enc enc2 wr wr2 wrn hT hsp hs hq hq1 hq2 hj hjl hszW hD hlt kT e1 e2 e3 s1 s2 pl hF hnn hsz hszT hz b1 b2 b3 b4 hVL hZn hSS hVV hNN hbl k3
    gi_wp2
    generalize (W2.alloc (.cells #[.int .i64 0,.int .u64 0,.int .i64 0] 250)) = W3 at *
    clear c3 c6 c7 f7 c8
    refine region_heldR (S := (fun w' => Keeps W3 w' [W2.heap.size,M + 1])) (by kernel_rfl) (by kernel_rfl) (by intro a9 w9 h9;exact h9) ((Keeps.refl W3 []).drew.mono (by simp)) (fun hHeld => ?_)
    refine takeM 0 rfl (by intro w9 hSw;have q := enc3.out.b6.keeps hSw (by have := HS2.out;simp;omega);obtain ⟨r0,-⟩ := q.one;clear hSw q;go_simp;(try with_reducible rfl)) ?_
    try simp only [Act.put,stA,stZ,stS]
    refine takeM 1 rfl (by intro w9 hSw;clear hSw;go_simp;(try with_reducible rfl)) ?_
    try simp only [Act.put,stA,stZ,stS]
    refine takeM 2 rfl (by intro w9 hSw;clear hSw;go_simp;(try rw [hpT]);(try with_reducible rfl)) ?_
    try simp only [Act.put,stA,stZ,stS]
    refine takeM 3 rfl (by intro w9 hSw;clear hSw;go_simp;(try with_reducible rfl)) ?_
    try simp only [Act.put,stA,stZ,stS]
    refine takeM 4 rfl (by intro w9 hSw;have q := (enc3.out.b9.keeps hSw (by have := HS2.out;simp;omega)).cell 0;simp at q;clear hSw;go_simp;(try with_reducible rfl)) ?_
    try simp only [Act.put,stA,stZ,stS]
    refine takeM 5 rfl (by intro w9 hSw;clear hSw;go_simp;(try with_reducible rfl)) ?_
    try simp only [Act.put,stA,stZ,stS]
    refine callL (i := 6) rfl (by kernel_rfl) (fun Kont hK => ?_)
    go_simp
    refine (HPR.out _ K3.out.drew).mono ?_
    rintro e w5 ⟨rfl,k5⟩
    have k5' := (Keeps.refl W3 []).drew.then k5
    go_wp2_with fail
    refine hK.out _ _ ?_ (fun hHeld => ?_)
    ·exact k5'.mono (by simp)
    clear hK Kont k5
    have enc5 := enc3.out.keeps k5' (fun x hx => by cases hx)
    have wr5 := Lib.hid (wr3.out.keeps0 k5')
    have bx5 := bx3.out.keeps k5' (by simp)
    have ENC5 := Lib.hid enc5
    have K5 := Lib.hid k5'
    have hxM : W2.heap.size ≠ M + 1 := by have := HS2.out;omega
    clear k5'
    refine takeM 7 rfl (by intro w9 hSw;clear hSw;go_simp;(try with_reducible rfl)) ?_
    try simp only [Act.put,stA,stZ,stS]
    refine takeM 8 rfl (by intro w9 hSw;clear hSw;go_simp;(try with_reducible rfl)) ?_
    try simp only [Act.put,stA,stZ,stS]
    refine takeM 9 rfl (by intro w9 hSw;clear hSw;go_simp;(try with_reducible rfl)) ?_
    try simp only [Act.put,stA,stZ,stS]
    refine callL (i := 10) rfl (by kernel_rfl) (fun Kont hK => ?_)
    refine step_storeB rfl 250 _ _ rfl W2.heap.size #[.int .i64 (SS : Int),.int .u64 (VV : Int),.int .i64 (NN : Int)] rfl rfl _ _ bx5 Tryz.step_size rfl (by simp [Value.oneCell']) ?_
    intro W9 b9 k9
    refine hK.out _ _ ?_ (fun hHeld => ?_)
    ·exact (K5.out.mono (by simp)).trans k9 (fun j hj _ => by simp at hj;simp [hj])
    clear hK Kont
    have enc9 := enc5.keeps k9 (fun x hx => by have := List.mem_singleton.1 hx;have := HS2.out;omega)
    obtain ⟨c7,f7⟩ := enc9.b7.one
    refine callL (i := 11) rfl (by kernel_rfl) (fun Kont hK => ?_)
    go_simp
    have ke : Keeps W9 (W9.setCell ⟨M + 1,0,none⟩ (.int .i64 0)) [M + 1] := (Keeps.refl W9 _).setCell (.inr (by simp)) _
    refine hK.out _ _ ?_ (fun hHeld => ?_)
    ·exact ((K5.out.mono (by simp)).trans k9 (fun j hj _ => by simp at hj;simp [hj])).trans ke (fun j hj _ => by simp at hj;simp [hj])
    clear hK Kont
    have K6 := Lib.hid (((K5.out.mono (S' := [W2.heap.size,M + 1]) (by simp)).trans k9 (fun j hj _ => by simp at hj;simp [hj])).trans ke (fun j hj _ => by simp at hj;simp [hj]))
    have enc6 := enc9.err
    have bx6 := b9.keeps ke (by simpa using hxM)
    have bx5b : w5.heap[W2.heap.size]? = some (.cells _ 250 (0,0)) := bx5
    have wr6 := (wr5.out.keepsT k9 (by have := HS2.out;simp;omega) (fun x hx cs z hh => by rw [List.mem_singleton.1 hx,bx5b] at hh;injection hh with hh;injection hh with _ hh _;exact absurd hh (by decide))).keeps ke (by simp) (fun x hx => by have := List.mem_singleton.1 hx;omega)
    clear bx5b
    clear enc9 enc5 bx5 c7 f7
    generalize (W9.setCell ⟨M + 1,0,none⟩ (.int .i64 0)) = W6 at *
    refine wpAnyH_done (by kernel_rfl) ?_ _
    obtain ⟨hv1,hv2,hv3,hv4,hVL,hN9,hBL⟩ := HSS.out
    have HPUT := Lib.hid (put_any (M + 2) (M + 8) VV NN _ W6 wr6 hVL (by omega) (by omega))
    obtain ⟨x0,x1,x2,-,-,-⟩ := bx6.three
    obtain ⟨c8,-⟩ := enc6.b8.one
    have ENC6 := Lib.hid enc6
    have BX6 := Lib.hid bx6
    clear enc6 bx6 wr6 hv1 hv2 hv3 hv4 hVL hN9 hBL hHeld ke hxM
    gi_wp2_with (refine ⟨trivial,?_⟩;gi_at_call 146;(refine (calls_in HPUT.out).mono ?_;rintro e w7 ⟨rfl,wr7,k7⟩;have enc7 : EncI w M C g norm (.slice A1 n cp1) l _ _ w7 := (by obtain ⟨S7,s1,s2⟩ := k7.old;exact ENC6.out.keeps s1 (fun b hb => by have := s2 b hb;omega));have bx7 := k7.blkT BX6.out (by have := HS2.out;omega) (by decide);clear x0 x1 x2 c8;obtain ⟨x0,x1,x2,-,-,-⟩ := bx7.three;obtain ⟨c7,f7⟩ := enc7.b7.one;have f9 := enc7.b9.frozen 0;have c9 := enc7.b9.cell 0;simp at c9;have ENC7 := Lib.hid enc7;have WR7 := Lib.hid wr7;have K7 := Lib.hid k7;clear enc7 wr7 k7 bx7))
    obtain ⟨e1,e2,e3⟩ := HE.out
    obtain ⟨hv1,hv2,hv3,hv4,hVL,hN9,hBL⟩ := HSS.out
    have kset : Keeps w7 (w7.setCell ⟨M + 4,0,none⟩ (.int .i64 (SS : Int))) [M + 4] := (Keeps.refl w7 _).setCell (.inr (by simp)) _
    have b9 := ENC7.out.b9.set 0 (.int .i64 (SS : Int))
    have enc8 : EncI w M C g norm (.slice A1 n cp1) l (twoE g norm l q) (twoO g norm l q) (w7.setCell ⟨M + 4,0,none⟩ (.int .i64 (SS : Int))) := by
     rw [e1,e2,hv1,hv2]
     exact ENC7.out.put kset (by simpa using b9)
    have wr8 : WR (w7.setCell ⟨M + 4,0,none⟩ (.int .i64 (SS : Int))) (M + 8) (M + 2) (bitE g norm l q) := by
     rw [e3,hv1,hv3,hv4]
     exact WR7.out.keeps kset (by simp) (fun k hk => by have := List.mem_singleton.1 hk;omega)
    have hHQ := HQ.out
    have hS := HS2.out
    have hs3 := K3.out.size
    have hs6 := K6.out.size
    have hs7 := K7.out.size
    refine ⟨(((SameAt.of K3.out (fun k hk => by have := HU.out k hk;omega) (fun k hk hm => by cases hm)).trans (SameAt.of K6.out (fun k hk => by have := HU.out k hk;omega) (fun k hk hm => by have := HU.out k hk;simp only [List.mem_cons,List.not_mem_nil,or_false] at hm;omega))).trans (by obtain ⟨S7,s1,s2⟩ := K7.out.old;exact SameAt.of s1 (fun k hk => by have := HU.out k hk;omega) (fun k hk hm => by have := HU.out k hk;have := s2 k hm;omega))).trans (SameAt.of kset (fun k hk => by have := HU.out k hk;omega) (fun k hk hm => by have := HU.out k hk;have := List.mem_singleton.1 hm;omega)),j + 1,hHQ.2.2.2,HUP.out.symm,?_,?_,?_⟩
    ·rw [hHQ.2.1]
     exact enc8
    ·rw [hHQ.2.1]
     exact .inr wr8
    ·exact Nat.le_trans (show M + 8 ≤ w7.heap.size + 2 by omega) (Nat.add_le_add_right kset.size 2)
   ·have hpI : (q : Int) % 2 = 1 := by omega
    have hpT : (q : Int).tmod 2 = 1 := by rw [Int.tmod_eq_emod_of_nonneg (by omega)];exact hpI
    obtain ⟨e1,e2,e3⟩ := two_more_odd (g := g) (norm := norm) hs (by omega) hpar
    have hz := (two_lt HOK.out HSY.out (q + 1)).2
    obtain ⟨b1,b2,b3,b4⟩ := predB_ok HOK.out s1 s2 hz
    have hVL := predV_lt g norm (twoO g norm l (q + 1)) s
    have HE := Lib.hid (show _ ∧ _ ∧ _ from ⟨e1,e2,e3⟩)
    obtain ⟨Zn,hZn⟩ : ∃ x,twoO g norm l (q + 1) = x := ⟨_,rfl⟩
    rw [hZn] at hz b4 hVL enc2
    have HPR := Lib.hid (fun W (k : Keeps W2 W []) => cpred_any C g M Zn s norm W (enc2.cod.keeps k (fun x hx => by cases hx)) HOK.out hz s1 s2)
    obtain ⟨SS,hSS⟩ : ∃ x,predS g norm Zn s = x := ⟨_,rfl⟩
    obtain ⟨VV,hVV⟩ : ∃ x,predV g norm Zn s = x := ⟨_,rfl⟩
    obtain ⟨NN,hNN⟩ : ∃ x,predB g norm Zn s = x := ⟨_,rfl⟩
    rw [hVV,hNN] at hVL
    rw [hNN] at b4
    rw [hSS,hVV,hNN] at HPR
    have hbl := encG_bits HOK.out (symsOk_drop HSY.out (q + 1))
    have HSS := Lib.hid (show _ ∧ _ ∧ _ ∧ _ ∧ VV < 2 ^ NN ∧ NN ≤ 9 ∧ (bitE g norm l (q + 1)).length ≤ 1000000 from ⟨hZn,hSS,hVV,hNN,hVL,Nat.le_trans b4 HOK.out.g9,by unfold bitE;rw [List.length_drop] at hbl;have := HLL.out;omega⟩)
    have k3 : Keeps W2 (W2.alloc (.cells #[.int .i64 0,.int .u64 0,.int .i64 0] 250)) [] := (Keeps.refl W2 []).alloc _
    have enc3 := Lib.hid (enc2.keeps k3 (fun x hx => by cases hx))
    have wr3 := Lib.hid (wr2.keeps0 k3)
    have bx3 := Lib.hid (Blk.new W2 #[.int .i64 0,.int .u64 0,.int .i64 0] 250)
    have K3 := Lib.hid k3
    clear enc enc2 wr wr2 wrn hT hsp hs hq hq1 hq2 hj hjl hszW hD hlt kT e1 e2 e3 s1 s2 pl hF hnn hsz hszT hz b1 b2 b3 b4 hVL hZn hSS hVV hNN hbl k3
    gi_wp2
    generalize (W2.alloc (.cells #[.int .i64 0,.int .u64 0,.int .i64 0] 250)) = W3 at *
    clear c3 c6 c7 f7 c8
    refine region_heldR (S := (fun w' => Keeps W3 w' [W2.heap.size,M + 1])) (by kernel_rfl) (by kernel_rfl) (by intro a9 w9 h9;exact h9) ((Keeps.refl W3 []).drew.mono (by simp)) (fun hHeld => ?_)
    refine takeM 0 rfl (by intro w9 hSw;have q := enc3.out.b6.keeps hSw (by have := HS2.out;simp;omega);obtain ⟨r0,-⟩ := q.one;clear hSw q;go_simp;(try with_reducible rfl)) ?_
    try simp only [Act.put,stA,stZ,stS]
    refine takeM 1 rfl (by intro w9 hSw;clear hSw;go_simp;(try with_reducible rfl)) ?_
    try simp only [Act.put,stA,stZ,stS]
    refine takeM 2 rfl (by intro w9 hSw;clear hSw;go_simp;(try rw [hpT]);(try with_reducible rfl)) ?_
    try simp only [Act.put,stA,stZ,stS]
    refine takeM 3 rfl (by intro w9 hSw;clear hSw;go_simp;(try with_reducible rfl)) ?_
    try simp only [Act.put,stA,stZ,stS]
    refine takeM 4 rfl (by intro w9 hSw;have q := (enc3.out.b9.keeps hSw (by have := HS2.out;simp;omega)).cell 1;simp at q;clear hSw;go_simp;(try with_reducible rfl)) ?_
    try simp only [Act.put,stA,stZ,stS]
    refine takeM 5 rfl (by intro w9 hSw;clear hSw;go_simp;(try with_reducible rfl)) ?_
    try simp only [Act.put,stA,stZ,stS]
    refine callL (i := 6) rfl (by kernel_rfl) (fun Kont hK => ?_)
    go_simp
    refine (HPR.out _ K3.out.drew).mono ?_
    rintro e w5 ⟨rfl,k5⟩
    have k5' := (Keeps.refl W3 []).drew.then k5
    go_wp2_with fail
    refine hK.out _ _ ?_ (fun hHeld => ?_)
    ·exact k5'.mono (by simp)
    clear hK Kont k5
    have enc5 := enc3.out.keeps k5' (fun x hx => by cases hx)
    have wr5 := Lib.hid (wr3.out.keeps0 k5')
    have bx5 := bx3.out.keeps k5' (by simp)
    have ENC5 := Lib.hid enc5
    have K5 := Lib.hid k5'
    have hxM : W2.heap.size ≠ M + 1 := by have := HS2.out;omega
    clear k5'
    refine takeM 7 rfl (by intro w9 hSw;clear hSw;go_simp;(try with_reducible rfl)) ?_
    try simp only [Act.put,stA,stZ,stS]
    refine takeM 8 rfl (by intro w9 hSw;clear hSw;go_simp;(try with_reducible rfl)) ?_
    try simp only [Act.put,stA,stZ,stS]
    refine takeM 9 rfl (by intro w9 hSw;clear hSw;go_simp;(try with_reducible rfl)) ?_
    try simp only [Act.put,stA,stZ,stS]
    refine callL (i := 10) rfl (by kernel_rfl) (fun Kont hK => ?_)
    refine step_storeB rfl 250 _ _ rfl W2.heap.size #[.int .i64 (SS : Int),.int .u64 (VV : Int),.int .i64 (NN : Int)] rfl rfl _ _ bx5 Tryz.step_size rfl (by simp [Value.oneCell']) ?_
    intro W9 b9 k9
    refine hK.out _ _ ?_ (fun hHeld => ?_)
    ·exact (K5.out.mono (by simp)).trans k9 (fun j hj _ => by simp at hj;simp [hj])
    clear hK Kont
    have enc9 := enc5.keeps k9 (fun x hx => by have := List.mem_singleton.1 hx;have := HS2.out;omega)
    obtain ⟨c7,f7⟩ := enc9.b7.one
    refine callL (i := 11) rfl (by kernel_rfl) (fun Kont hK => ?_)
    go_simp
    have ke : Keeps W9 (W9.setCell ⟨M + 1,0,none⟩ (.int .i64 0)) [M + 1] := (Keeps.refl W9 _).setCell (.inr (by simp)) _
    refine hK.out _ _ ?_ (fun hHeld => ?_)
    ·exact ((K5.out.mono (by simp)).trans k9 (fun j hj _ => by simp at hj;simp [hj])).trans ke (fun j hj _ => by simp at hj;simp [hj])
    clear hK Kont
    have K6 := Lib.hid (((K5.out.mono (S' := [W2.heap.size,M + 1]) (by simp)).trans k9 (fun j hj _ => by simp at hj;simp [hj])).trans ke (fun j hj _ => by simp at hj;simp [hj]))
    have enc6 := enc9.err
    have bx6 := b9.keeps ke (by simpa using hxM)
    have bx5b : w5.heap[W2.heap.size]? = some (.cells _ 250 (0,0)) := bx5
    have wr6 := (wr5.out.keepsT k9 (by have := HS2.out;simp;omega) (fun x hx cs z hh => by rw [List.mem_singleton.1 hx,bx5b] at hh;injection hh with hh;injection hh with _ hh _;exact absurd hh (by decide))).keeps ke (by simp) (fun x hx => by have := List.mem_singleton.1 hx;omega)
    clear bx5b
    clear enc9 enc5 bx5 c7 f7
    generalize (W9.setCell ⟨M + 1,0,none⟩ (.int .i64 0)) = W6 at *
    refine wpAnyH_done (by kernel_rfl) ?_ _
    obtain ⟨hv1,hv2,hv3,hv4,hVL,hN9,hBL⟩ := HSS.out
    have HPUT := Lib.hid (put_any (M + 2) (M + 8) VV NN _ W6 wr6 hVL (by omega) (by omega))
    obtain ⟨x0,x1,x2,-,-,-⟩ := bx6.three
    obtain ⟨c8,-⟩ := enc6.b8.one
    have ENC6 := Lib.hid enc6
    have BX6 := Lib.hid bx6
    clear enc6 bx6 wr6 hv1 hv2 hv3 hv4 hVL hN9 hBL hHeld ke hxM
    gi_wp2_with (refine ⟨trivial,?_⟩;gi_at_call 146;(refine (calls_in HPUT.out).mono ?_;rintro e w7 ⟨rfl,wr7,k7⟩;have enc7 : EncI w M C g norm (.slice A1 n cp1) l _ _ w7 := (by obtain ⟨S7,s1,s2⟩ := k7.old;exact ENC6.out.keeps s1 (fun b hb => by have := s2 b hb;omega));have bx7 := k7.blkT BX6.out (by have := HS2.out;omega) (by decide);clear x0 x1 x2 c8;obtain ⟨x0,x1,x2,-,-,-⟩ := bx7.three;obtain ⟨c7,f7⟩ := enc7.b7.one;have f9 := enc7.b9.frozen 1;have c9 := enc7.b9.cell 1;simp at c9;have ENC7 := Lib.hid enc7;have WR7 := Lib.hid wr7;have K7 := Lib.hid k7;clear enc7 wr7 k7 bx7))
    obtain ⟨e1,e2,e3⟩ := HE.out
    obtain ⟨hv1,hv2,hv3,hv4,hVL,hN9,hBL⟩ := HSS.out
    have kset : Keeps w7 (w7.setCell ⟨M + 4,1,none⟩ (.int .i64 (SS : Int))) [M + 4] := (Keeps.refl w7 _).setCell (.inr (by simp)) _
    have b9 := ENC7.out.b9.set 1 (.int .i64 (SS : Int))
    have enc8 : EncI w M C g norm (.slice A1 n cp1) l (twoE g norm l q) (twoO g norm l q) (w7.setCell ⟨M + 4,1,none⟩ (.int .i64 (SS : Int))) := by
     rw [e1,e2,hv1,hv2]
     exact ENC7.out.put kset (by simpa using b9)
    have wr8 : WR (w7.setCell ⟨M + 4,1,none⟩ (.int .i64 (SS : Int))) (M + 8) (M + 2) (bitE g norm l q) := by
     rw [e3,hv1,hv3,hv4]
     exact WR7.out.keeps kset (by simp) (fun k hk => by have := List.mem_singleton.1 hk;omega)
    have hHQ := HQ.out
    have hS := HS2.out
    have hs3 := K3.out.size
    have hs6 := K6.out.size
    have hs7 := K7.out.size
    refine ⟨(((SameAt.of K3.out (fun k hk => by have := HU.out k hk;omega) (fun k hk hm => by cases hm)).trans (SameAt.of K6.out (fun k hk => by have := HU.out k hk;omega) (fun k hk hm => by have := HU.out k hk;simp only [List.mem_cons,List.not_mem_nil,or_false] at hm;omega))).trans (by obtain ⟨S7,s1,s2⟩ := K7.out.old;exact SameAt.of s1 (fun k hk => by have := HU.out k hk;omega) (fun k hk hm => by have := HU.out k hk;have := s2 k hm;omega))).trans (SameAt.of kset (fun k hk => by have := HU.out k hk;omega) (fun k hk hm => by have := HU.out k hk;have := List.mem_singleton.1 hm;omega)),j + 1,hHQ.2.2.2,HUP.out.symm,?_,?_,?_⟩
    ·rw [hHQ.2.1]
     exact enc8
    ·rw [hHQ.2.1]
     exact .inr wr8
    ·exact Nat.le_trans (show M + 8 ≤ w7.heap.size + 2 by omega) (Nat.add_le_add_right kset.size 2)
 case hrest =>
  rintro D X hD hK ⟨enc,wrn,hM6⟩
  rw [hsz] at hD
  obtain ⟨bs,hbs,wr⟩ : ∃ bs,M + 6 ≤ bs ∧ WR X bs (M + 2) (bitE g norm l 0) := by
   rcases wrn with ⟨h1,h2⟩ | h
   ·exact ⟨M + 6,Nat.le_refl _,by rw [h1];exact .new h2 hM6⟩
   ·exact ⟨M + 8,by omega,h⟩
  obtain ⟨z1,z2,z3⟩ := two_zero g norm l
  rw [z1,z2] at enc
  rw [z3] at wr
  have hln := encG_bits HOK.out HSY.out
  obtain ⟨hlt1,hlt2⟩ := encG_lt HOK.out HSY.out
  have HFB : Hid (flowE g norm l = packB (((encG g norm l).2.2 ++ (if 2 ≤ l.length then bitsN (encG g norm l).2.1 g else []) ++ (if 1 ≤ l.length then bitsN (encG g norm l).1 g else [])) ++ [true])) := Lib.hid rfl
  obtain ⟨E,hE⟩ : ∃ E,(encG g norm l).1 = E := ⟨_,rfl⟩
  obtain ⟨O,hO⟩ : ∃ O,(encG g norm l).2.1 = O := ⟨_,rfl⟩
  obtain ⟨B0,hB0⟩ : ∃ B,(encG g norm l).2.2 = B := ⟨_,rfl⟩
  rw [hE] at enc hlt1 HFB
  rw [hO] at enc hlt2 HFB
  rw [hB0] at wr hln HFB
  obtain ⟨F,hF⟩ : ∃ F,flowE g norm l = F := ⟨_,rfl⟩
  rw [hF] at HFB
  have HFE := Lib.hid hF
  obtain ⟨m2,hm2⟩ : ∃ m,min n 2 = m := ⟨_,rfl⟩
  have hmin : min (n : Int) 2 = (m2 : Int) := by omega
  have hm2l : m2 ≤ 2 := by omega
  have hm2I : (m2 : Int) ≤ 2 := by omega
  have hm20 : (0 : Int) ≤ (m2 : Int) := by omega
  obtain ⟨c3,-⟩ := enc.b3.one
  have HM2 := Lib.hid hm2
  have HD := Lib.hid hD
  have HLT := Lib.hid (show _ ∧ _ ∧ _ from ⟨hlt1,hlt2,hln⟩)
  have HBS := Lib.hid hbs
  have ENC := Lib.hid enc
  have WRX := Lib.hid wr
  have HX := Lib.hid (show M + 5 < X.heap.size by omega)
  have HKD := Lib.hid hK
  have HSM : Hid (w.heap.size + 4 ≤ M) := Lib.hid enc.lo
  have hsx : w.heap.size + 1 < X.heap.size := by have := enc.lo;omega
  have hsx0 : w.heap.size < X.heap.size := by omega
  clear hsz t1 t2 t3 z1 z2 z3 hE hO hB0 hF hln hlt1 hlt2 hm2 hD hK enc wrn wr hM6 hbs ENC0 p2 hseq hM4
  simp only [Exit.inBlock,Exit.then]
  go_wp2_with (first
   | (go_at_call 204;(refine (backwardI_any _ _ _ _).mono ?_;rintro e w2 ⟨rfl,rfl⟩)))
  have kY := (Keeps.refl X []).alloc (.cells #[.slice (some ⟨M + 4,0,none⟩) m2 2] 25)
  have bY := Blk.new X #[.slice (some ⟨M + 4,0,none⟩) m2 2] 25
  have hsz : (X.alloc (.cells #[.slice (some ⟨M + 4,0,none⟩) m2 2] 25)).heap.size = X.heap.size + 1 := by simp
  have hKD : (X.alloc (.cells #[.slice (some ⟨M + 4,0,none⟩) m2 2] 25)).heap[D]? = some (.deferred (some [])) := (kY.block D (Array.getElem?_eq_some_iff.1 HKD.out).1 (by simp)).trans HKD.out
  have encY := ENC.out.keeps kY (fun b hb => by cases hb)
  have wrY := WRX.out.keeps0 kY
  have HDX := Lib.hid (Array.getElem?_eq_some_iff.1 HKD.out).1
  generalize (X.alloc (.cells #[.slice (some ⟨M + 4,0,none⟩) m2 2] 25)) = Y at *
  have hseq := backZ X.heap.size (.slice (some ⟨M + 4,0,none⟩) m2 2) (tlE E O m2) Y bY (tlE_reads encY.b9 hm2l) (by rw [tlE_len hm2l];omega)
  have HTL : Hid ((tlE E O m2).length = m2) := Lib.hid (tlE_len hm2l)
  have HBY : Hid (∀ j ∈ blkOf (.slice (some ⟨M + 4,0,none⟩) m2 2),j = M + 4) := Lib.hid (fun j hj => by
   by_cases h0 : 0 < m2
   ·simpa [blkOf,h0] using hj
   ·simp [blkOf,h0] at hj)
  clear kY c3 ENC WRX HKD hsx hsx0 hmin
  refine range_PZ (gf := 217) (lb := #[.pointer (some ⟨X.heap.size,0,none⟩)]) rfl (enters_of Tryz.func217 (by kernel_rfl) rfl)
   hseq ?hX2 (fun _ => rfl) 2
   (fun pre W => (∃ j : Nat,j ≤ m2 ∧ pre = upto (bacF (tlE E O m2)) j) ∧ EncI w M C g norm (.slice A1 n cp1) l E O W ∧ WR W bs (M + 2) (B0 ++ tailB g pre) ∧ RowOut W (M + 2) [Y.heap.size,Y.heap.size + 1] ∧ Blk W X.heap.size #[.slice (some ⟨M + 4,0,none⟩) m2 2] 25 ∧ W.heap[D]? = some (.deferred (some [])))
   (fun pre W => False)
   (fun W => EncI w M C g norm (.slice A1 n cp1) l E O W ∧ WR W bs (M + 2) (B0 ++ tailB g (upto (bacF (tlE E O m2)) (tlE E O m2).length)) ∧ W.heap[D]? = some (.deferred (some [])))
   ?hI2 ?hIx2 ?h02 ?hround2 ?hdone2 ?hstop2 ?hex2 ?hrest2
  case hX2 =>
   intro j hj
   have := HX.out
   rcases List.mem_append.1 hj with hj | hj
   ·have := List.mem_singleton.1 hj;omega
   ·have := HBY.out j hj;omega
  case hI2 =>
   rintro s A B' ⟨h1,h3,h4,h5,h6,h7⟩ hab
   have := HX.out
   have hdx := HDX.out
   have hA := h6.lt
   refine ⟨h1,h3.keeps hab (fun b hb => by simp at hb;omega),h4.keepsO h5 hab (by simp;omega),h5.keeps hab h4.lt.1 (by simp;omega),h6.keeps hab (by simp;omega),(hab.block D (by have := (Array.getElem?_eq_some_iff.1 h7).1;omega) (by simp;omega)).trans h7⟩
  case hIx2 => exact fun s A B' h _ => h
  case hstop2 => exact fun pre X' _ h => h.elim
  case hex2 => exact fun a' W h => by simpa [Exit.inBlock,Exit.noGoto] using h
  case h02 =>
   refine ⟨⟨0,Nat.zero_le _,rfl⟩,encY,by simpa [tailB] using wrY,wrY.rowOut (fun x hx cs z hh => ?_),bY,hKD⟩
   have := (Array.getElem?_eq_some_iff.1 hh).1
   simp at hx
   omega
  case hdone2 =>
   rintro xs W hS ⟨h1,h3,h4,h5,h6,h7⟩
   rw [hS] at h4
   exact ⟨h3,h4,h7⟩
  case hround2 =>
   rintro l' pre x W hl hlt hD2 hF ⟨⟨j,hjl,rfl⟩,enc,wr,ro,by5,hKW⟩ hsp
   obtain ⟨hj,rfl⟩ := upto_next hsp
   rw [HTL.out] at hj
   subst hl
   obtain ⟨q,hq⟩ : ∃ q,m2 - 1 - j = q := ⟨_,rfl⟩
   obtain ⟨y,hy⟩ : ∃ y,(tlE E O m2)[q]? = some y := ⟨_,List.getElem?_eq_getElem (by rw [HTL.out];omega)⟩
   obtain ⟨v,rfl,hv⟩ := tlE_get hy
   have hbf : bacF (tlE E O m2) j = (q,(v : Int)) := by
    unfold bacF
    rw [HTL.out,hq,hy];rfl
   have hvl : v < 2 ^ g := by
    rcases hv with rfl | rfl
    ·exact HLT.out.1
    ·exact HLT.out.2.1
   have HUP := Lib.hid (upto_succ (bacF (tlE E O m2)) j)
   rw [hbf] at HUP ⊢
   have h29 : 2 ^ g ≤ 2 ^ 9 := Nat.pow_le_pow_right (by decide) HOK.out.g9
   rw [show (2 : Nat) ^ 9 = 512 by decide] at h29
   have hwu : IntKind.u64.wrap (v : Int) = (v : Int) := by simp [IntKind.wrap,IntKind.signed,IntKind.bits];omega
   have HV := Lib.hid hvl
   have HJ := Lib.hid hj
   have HSY2 := Lib.hid hsz
   have HR := Lib.hid (show _ ∧ _ ∧ _ ∧ _ ∧ _ ∧ _ from ⟨enc,wr,ro,by5,hKW,hD2⟩)
   clear hq hy hv hbf hvl h29 hj hsz enc wr ro by5 hKW hD2 hsp encY wrY bY hKD hF
   gi_wp2
   refine ⟨SameAt.refl _ _,fun W2 hT => ?_⟩
   obtain ⟨enc,wr,ro,by5,hKW,hD2⟩ := HR.out
   have hsz := HSY2.out
   have hbs := HBS.out
   have hXX := HX.out
   have hdx := HDX.out
   have hT' := hT
   obtain ⟨lr,lr',hTl,hTW⟩ := hT'
   have kT := hT.keeps
   have hszT := hT.size
   have enc2 := enc.keeps kT (fun b hb => by have := List.mem_singleton.1 hb;omega)
   have wr2 := wr.keepsT kT (by simp;omega) (fun x hx cs z hh => by rw [List.mem_singleton.1 hx,hTl] at hh;cases hh)
   have ENC2 := Lib.hid enc2
   have hgl : (B0 ++ tailB g (upto (bacF (tlE E O m2)) j)).length + g ≤ 8000000 := by
    rw [List.length_append,tailB_len,upto_length]
    have h1 := HLT.out.2.2
    have h2 := HLL.out
    have h3 := HOK.out.g9
    have h4 : g * j ≤ 9 * 2 := Nat.mul_le_mul h3 (by omega)
    omega
   have HPUT := Lib.hid (put_any (M + 2) bs v g _ W2.drew (wr2.keeps0 (Keeps.refl W2 []).drew) HV.out (by have := HOK.out.g9;omega) hgl)
   have HLG := Lib.hid (fun W (k : Keeps W2 W []) => clog_any C g M norm W (enc2.cod.keeps k (fun x hx => by cases hx)) HOK.out.g9)
   have e1 := (kT.block D (Array.getElem?_eq_some_iff.1 hKW).1 (by simp;omega)).trans hKW
   have e2 := (kT.block Y.heap.size (Array.getElem?_eq_some_iff.1 hD2).1 (by simp)).trans hD2
   have e3 : W2.heap[Y.heap.size + 1]? = some (.loop lr') := by rw [hTW];exact World.putObj_heap_same (Array.getElem?_eq_some_iff.1 hTl).1
   have e4 := by5.keeps kT (by simp;omega)
   have HW2 := Lib.hid (show _ ∧ _ ∧ _ ∧ _ from ⟨e1,e2,e3,e4⟩)
   clear enc wr ro by5 hKW hD2 hT hTl hTW kT hszT enc2 wr2 hgl e1 e2 e3 e4 hsz hbs hXX hdx
   gi_wp2
   refine region_heldR (S := (fun w' => KQB (M + 2) bs W2 w')) (by kernel_rfl) (by kernel_rfl) (by intro a9 w9 h9;exact h9) (KQB.of (S := []) (Keeps.refl W2 []).drew (fun x hx => by cases hx)) (fun hHeld => ?_)
   refine takeM 0 rfl (by intro w9 hSw;have q := hSw.blk ENC2.out.b8 (by omega) (by have := HBS.out;omega);obtain ⟨r0,-⟩ := q.one;clear hSw q;go_simp;(try with_reducible rfl)) ?_
   try simp only [Act.put,stA,stZ,stS]
   refine takeM 1 rfl (by intro w9 hSw;clear hSw;go_simp;(try with_reducible rfl)) ?_
   try simp only [Act.put,stA,stZ,stS]
   refine takeM 2 rfl (by intro w9 hSw;clear hSw;go_simp;(try rw [hwu]);(try with_reducible rfl)) ?_
   try simp only [Act.put,stA,stZ,stS]
   refine takeM 3 rfl (by intro w9 hSw;have q := hSw.blk ENC2.out.b6 (by omega) (by have := HBS.out;omega);obtain ⟨r0,-⟩ := q.one;clear hSw q;go_simp;(try with_reducible rfl)) ?_
   try simp only [Act.put,stA,stZ,stS]
   refine callL (i := 4) rfl (by kernel_rfl) (fun Kont hK => ?_)
   go_simp
   refine (HLG.out _ (Keeps.refl W2 []).drew).mono ?_
   rintro e w5 ⟨rfl,rfl⟩
   go_wp2_with fail
   refine hK.out _ _ ?_ (fun hHeld => ?_)
   ·exact hHeld
   clear hK Kont
   refine callL (i := 5) rfl (by kernel_rfl) (fun Kont hK => ?_)
   go_simp
   refine HPUT.out.mono ?_
   rintro e w7 ⟨rfl,wr7,k7⟩
   have k7' : KQB (M + 2) bs W2 w7 := (KQB.of (S := []) (Keeps.refl W2 []).drew (fun x hx => by cases hx)).trans k7
   have WR7 := Lib.hid wr7
   have K7 := Lib.hid k7'
   clear wr7 k7
   go_wp2_with fail
   refine hK.out _ _ ?_ (fun hHeld => ?_)
   ·exact k7'
   clear hK Kont k7'
   refine wpAnyH_done (by kernel_rfl) ?_ _
   obtain ⟨e1,e2,e3,e4⟩ := HW2.out
   have hbs := HBS.out
   have hXX := HX.out
   have hsz := HSY2.out
   have e1' := K7.out.heap e1 (by have := HDX.out;have := HD.out;omega) (fun cs z h => by cases h)
   have e2' := K7.out.heap e2 (by omega) (fun cs z h => by cases h)
   have e3' := K7.out.heap e3 (by omega) (fun cs z h => by cases h)
   have e4' := K7.out.blkT e4 (by omega) (by decide)
   have e5 : W2.heap[M + 4]? = some (.cells _ 232 (0,0)) := ENC2.out.b9
   have e5' := K7.out.heap e5 (by omega) (fun cs z h => by injection h with _ h _;exact absurd h (by decide))
   have e4h : W2.heap[X.heap.size]? = some (.cells _ 25 (0,0)) := e4
   have e4h' : w7.heap[X.heap.size]? = some (.cells _ 25 (0,0)) := e4'
   refine ⟨fun k hk => ?_,⟨j + 1,by have := HJ.out;omega,HUP.out.symm⟩,?_,?_,?_,e4',e1'⟩
   ·rcases List.mem_append.1 hk with hk | hk
    ·rcases List.mem_append.1 hk with hk | hk
     ·rw [List.mem_singleton.1 hk,e4h,e4h']
     ·rw [HBY.out k hk,e5,e5']
    ·simp only [List.mem_cons,List.not_mem_nil,or_false] at hk
     rcases hk with rfl | rfl
     ·rw [e2,e2']
     ·rw [e3,e3']
   ·obtain ⟨S7,s1,s2⟩ := K7.out.old
    exact ENC2.out.keeps s1 (fun b hb => by have := s2 b hb;omega)
   ·rw [tailB_snoc,← List.append_assoc];exact WR7.out
   ·refine WR7.out.rowOut (fun x hx cs z hh => ?_)
    simp only [List.mem_cons,List.not_mem_nil,or_false] at hx
    rcases hx with rfl | rfl
    ·rw [e2'] at hh;cases hh
    ·rw [e3'] at hh;cases hh
  case hrest2 =>
   rintro D2 Z hD2 hK2 ⟨enc,wr,hKZ⟩
   rw [tlE_all (g := g) (n := l.length) (by have h1 := HM2.out;have h2 := HNL.out;rw [← h2];exact h1),← List.append_assoc] at wr
   have hlen : (B0 ++ (if 2 ≤ l.length then bitsN O g else []) ++ (if 1 ≤ l.length then bitsN E g else [])).length ≤ 7000000 := by
    have h1 := HLT.out.2.2
    have h2 := HLL.out
    have h3 := HOK.out.g9
    simp only [List.length_append]
    split <;> split <;> simp only [bitsN_len,List.length_nil] <;> omega
   have HCLS := Lib.hid (wclose_any (M + 2) bs _ Z wr hlen)
   rw [← HFB.out,← HFE.out] at HCLS
   obtain ⟨c8,-⟩ := enc.b8.one
   have ENC := Lib.hid enc
   have HKS := Lib.hid (show _ ∧ _ ∧ _ from ⟨hK2,hKZ,hD2⟩)
   have HSY2 := Lib.hid hsz
   clear enc wr hK2 hKZ hD2 hlen hsz encY wrY bY hKD hm2l hm2I hm20
   simp only [Exit.inBlock,Exit.then]
   go_wp2_with (go_at_call 208;(refine HCLS.out.mono ?_;rintro e w5 ⟨v5,rfl,own5,k5⟩;obtain ⟨a5,c5,rfl⟩ := own_form own5;have enc5 := ENC.out.keeps k5 (fun b hb => by cases hb);obtain ⟨g4,f4⟩ := enc5.b4.one;obtain ⟨g5,f5⟩ := enc5.b5.one;have ENC5 := Lib.hid enc5;have OW5 := Lib.hid own5;have K5 := Lib.hid k5;clear own5 k5 enc5 c8))
   obtain ⟨hK2,hKZ,hD2⟩ := HKS.out
   have hsz := HSY2.out
   have hdx := HDX.out
   have hdl := HD.out
   have hsm := HSM.out
   have k6 : Keeps w5 ((w5.setCell ⟨w.heap.size + 1 + 1,0,none⟩ (.slice a5 (flowE g norm l).length c5)).setCell ⟨w.heap.size + 1 + 1 + 1,0,none⟩ (.int .i64 0)) [w.heap.size + 2,w.heap.size + 3] := ((Keeps.refl w5 _).setCell (.inr (by simp)) _).setCell (.inr (by simp)) _
   have B4 : Blk ((w5.setCell ⟨w.heap.size + 1 + 1,0,none⟩ (.slice a5 (flowE g norm l).length c5)).setCell ⟨w.heap.size + 1 + 1 + 1,0,none⟩ (.int .i64 0)) (w.heap.size + 1 + 1) #[.slice a5 (flowE g norm l).length c5] 22 := by
    have := (ENC5.out.b4.set 0 (.slice a5 (flowE g norm l).length c5)).keeps ((Keeps.refl (w5.setCell ⟨w.heap.size + 2,0,none⟩ (.slice a5 (flowE g norm l).length c5)) [w.heap.size + 3]).setCell (a := ⟨w.heap.size + 3,0,none⟩) (.inr (by simp)) (.int .i64 0)) (by simp)
    simpa using this
   have B5 : Blk ((w5.setCell ⟨w.heap.size + 1 + 1,0,none⟩ (.slice a5 (flowE g norm l).length c5)).setCell ⟨w.heap.size + 1 + 1 + 1,0,none⟩ (.int .i64 0)) (w.heap.size + 1 + 1 + 1) #[.int .i64 0] 33 := by
    have := (ENC5.out.b5.keeps ((Keeps.refl w5 [w.heap.size + 2]).setCell (a := ⟨w.heap.size + 2,0,none⟩) (.inr (by simp)) (.slice a5 (flowE g norm l).length c5)) (by simp)).set 0 (.int .i64 0)
    simpa using this
   have kk6 : Keeps w _ [] := ENC5.out.kk.trans k6 (fun j hj hl => by simp at hj;omega)
   have hsZ := K5.out.size
   have hXX := HX.out
   have hD2l := (Array.getElem?_eq_some_iff.1 hK2).1
   have e1 := (k6.block D2 (by omega) (by simp;omega)).trans ((K5.out.block D2 hD2l (by simp)).trans hK2)
   have e2 := (k6.block D (by omega) (by simp;omega)).trans ((K5.out.block D (by omega) (by simp)).trans hKZ)
   have own6 := own_old OW5.out k6 (fun x hx hm => by have := (OW5.out.lt x hx).1;simp at hm;omega)
   generalize ((w5.setCell ⟨w.heap.size + 1 + 1,0,none⟩ (.slice a5 (flowE g norm l).length c5)).setCell ⟨w.heap.size + 1 + 1 + 1,0,none⟩ (.int .i64 0)) = W6 at *
   have kp1 : Keeps W6 (W6.putObj D2 (.deferred none)) [D2] := keeps_put
   have kp2 : Keeps (W6.putObj D2 (.deferred none)) ((W6.putObj D2 (.deferred none)).putObj D (.deferred none)) [D] := keeps_put
   have hDD : D ≠ D2 := by omega
   refine ⟨by simp,.inl ⟨_,_,rfl,run_takeDeferred e1,?_⟩⟩
   refine ⟨by simp,.inl ⟨_,_,rfl,run_takeDeferred ((World.putObj_heap_other hDD).trans e2),?_⟩⟩
   have B4' := (B4.keeps kp1 (by simp;omega)).keeps kp2 (by simp;omega)
   have B5' := (B5.keeps kp1 (by simp;omega)).keeps kp2 (by simp;omega)
   have own8 := own_old (own_old own6 kp1 (fun x hx hm => by have := (OW5.out.lt x hx).1;have := List.mem_singleton.1 hm;omega)) kp2 (fun x hx hm => by have := (OW5.out.lt x hx).1;have := List.mem_singleton.1 hm;omega)
   exact ⟨_,res_two Tryz.results178 rfl rfl (load_byt1 B4') (load_err1 B5'),⟨_,rfl,own_base own8 (by omega),(kk6.trans kp1 (fun j hj hl => by have := List.mem_singleton.1 hj;omega)).trans kp2 (fun j hj hl => by have := List.mem_singleton.1 hj;omega)⟩⟩


end Go.Proofs.YtcmagccfagijlaaGreat
