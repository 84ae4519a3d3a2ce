/-
  Walks over package desc: table. (Printed by mkRt.py.)
-/
import Derived.Test.YtcmagccfagijlaaGreatQ9
import Derived.Test.YtcmagccfagijlaaGreatQ2
import Derived.Test.YtcmagccfagijlaaGreatQ1
namespace Go.Proofs.YtcmagccfagijlaaGreat
set_option linter.unusedVariables false
set_option linter.unusedSimpArgs false
set_option linter.unusedSectionVars false
set_option maxRecDepth 100000
open Go.RowKit

theorem tblr_size : (Tryz.prog.info? 27).map (·.size) = some 2 := by kernel_rfl
theorem loadr_tbl {w : World} {b : Nat} {x v : Value} (h : Blk w b #[x,v] 27) : (loadVar 27 ⟨b,0,none⟩).run Tryz.prog w = .ok (.agg #[x,v]) w :=
 load_blk h Tryz.underlying27 rfl (by rw [tblr_size];rfl)

def tabOf (G : Nat) : Except Int (List Int × List Bool) → Except Int (Nat × List Int × List Bool)
 | .error e => .error e
 | .ok (l,L2) => .ok (G,l,L2)
def tabP (B : List Int) (symbols : Nat) (log : Int) : Except Int (Nat × List Int × List Bool) :=
 match tk (rowBits B) 4 with
 | .error e => .error e
 | .ok (n,L1) => if log < (n : Int) + 1 ∨ 8 < n then .error 13 else
  tabOf (n + 1) (normsP symbols (symbols + 1) L1 (2 ^ (n + 1)) [] false)

def TabDone (w : World) (Q R g : Nat) (B : List Int) (G : Nat) (l : List Int) (Z : Except Int (Nat × List Int × List Bool)) : Prop :=
 match Z with
  | .ok (n,o,L2) => n = G ∧ o = l ∧ ∃ p',L2 = (rowBits B).drop p' ∧ p' ≤ 8 * B.length ∧ DR w Q R g B p' 0
  | .error e => e ≠ 0 ∧ ∃ p',DR w Q R g B p' e
theorem TabDone.old {w w' : World} {Q R g G N : Nat} {B l : List Int} {Z : Except Int (Nat × List Int × List Bool)} {S : List Nat} (h : TabDone w Q R g B G l Z) (k : Keeps w w' S) (hQ : Q < N) (hR : R < N) (hg : 0 < B.length → g < N) (hS : ∀ x ∈ S,N ≤ x) : TabDone w' Q R g B G l Z := by
 cases Z with
 | ok z => obtain ⟨h1,h2,p',h3,h4,h5⟩ := h;exact ⟨h1,h2,p',h3,h4,h5.old k hQ hR hg hS⟩
 | error e => obtain ⟨h1,p',h4⟩ := h;exact ⟨h1,p',h4.old k hQ hR hg hS⟩
def TabEnd (w : World) (Q R g : Nat) (B : List Int) (Z : Except Int (Nat × List Int × List Bool)) (e : Ending) (w' : World) : Prop :=
 ∃ (G : Nat) (l : List Int) (a : Option Addr) (c : Nat),e = .returned (.agg #[.int .i64 (G : Int),.slice a l.length c]) ∧ w'.ownsRow w.heap.size 3 1 (.slice a l.length c) l.length (l.map (.int .i64)) ∧ l.length ≤ 1300 ∧ TabDone w' Q R g B G l Z ∧ Keeps w w' [Q,R]

section
variable {P : Program} {md : Region.Mode} {os : List Oper} {Q : Exit → Act → World → Prop} {S : World → Prop}
theorem call2L {i j : Nat} {oi oj : Oper} {fuel : Nat} {listed : Array Bool} {a : Act} {w : World} (hi : os[i]? = some oi) (hj : os[j]? = some oj) (hr : Region.ready md os.toArray listed = [i,j])
  (h : ∀ K' : Act → World → Prop,Shut (∀ a w,S w → (S w → wpAnyH P md os.toArray Q S fuel (listed.setIfInBounds i true) a w) → K' a w) → if Region.wanted oi (yielded os.toArray a.tmps) = true then Oper.wp P oi a w K' Q else K' (a.put oi.dst undef) w)
  (g : ∀ K' : Act → World → Prop,Shut (∀ a w,S w → (S w → wpAnyH P md os.toArray Q S fuel (listed.setIfInBounds j true) a w) → K' a w) → if Region.wanted oj (yielded os.toArray a.tmps) = true then Oper.wp P oj a w K' Q else K' (a.put oj.dst undef) w) :
  wpAnyH P md os.toArray Q S (fuel + 1) listed a w :=
 wpAnyH_ready hr (by simp) (AllReadyH.cons (by simpa using hi) h (AllReadyH.cons (by simpa using hj) g AllReadyH.nil))
end
theorem one_newsI {w : World} {b : Nat} {v : Value} {T : TypeId} (h : Blk w b #[v] T) : ∀ (j : Nat) (u : Value),[v][j]? = some u → w.cell? (Addr.add ⟨b,0,none⟩ j) = some u := fun j u hj => by
 cases j with
 | zero =>
  obtain rfl : v = u := by simpa using hj
  exact h.cell 0
 | succ j => simp at hj
theorem wpList_app1I {P : Program} {w : World} {ops : Array Oper} {rest : List Oper} {o : Oper} {a : Act} {Q : Exit → Act → World → Prop} (hg : o.guard = none) (s x : Operand) (t : TypeId)
  (ho : o.op = .call { callee := .builtin .append,args := #[s,x],argTypes := #[t,t] })
  (base : Nat) (i : TypeInfo) (ht : P.underlying t = some (.slice 3)) (hi : P.info? 3 = some i) (hz : i.zero = some (.int .i64 0)) (hsize : i.size = 1) (hby : i.bytes = 8)
  (v : Value) (n : Nat) (L : List Int) (y : Int) (B : Nat) (hs : a.eval s = v) (hx : a.eval x = .slice (some ⟨B,0,none⟩) 1 1) (hB : w.heap.size = B)
  (hown : w.ownsRow base 3 1 v n (L.map (.int .i64))) (h63 : n ≤ 10000000) (hbase : base ≤ w.heap.size)
  (h : ∀ a' c' w',w'.ownsRow base 3 1 (.slice a' (n + 1) c') (n + 1) ((L ++ [y]).map (.int .i64)) → Keeps w w' (match v.ownBlock with | some g => [g] | none => []) → wpList P ops Q rest (a.put o.dst (.slice a' (n + 1) c')) w') :
  wpList P ops Q (o :: rest) a (w.alloc (.cells #[.int .i64 y] 3)) := by
 subst hB
 refine wpList_append_own _ hg s x t ho base _ i (.int .i64 0) 1 8 ht hi hz hsize hby rfl (by decide) v n (L.map (.int .i64)) hs (own_keeps hown ((Keeps.refl w []).alloc _)) _ 1 1 [.int .i64 y] hx rfl (one_newsI (Blk.new w _ _)) (by simp [Value.oneCell']) (by unfold maxLen;omega) (by omega) (by simp;omega) ?_
 intro v3 w3 h3 g3 _
 obtain ⟨a3,c3,rfl⟩ := own_form h3
 refine h a3 c3 w3 ?_ ?_
 ·have : L.map (Value.int .i64) ++ [.int .i64 y] = (L ++ [y]).map (Value.int .i64) := by simp
  rw [this] at h3
  exact h3
 ·exact ((Keeps.refl w _).alloc _).trans (Keeps.of_grown g3 (fun k hk => by rw [hk];simp)) (fun j hj _ => hj)

theorem young {w : World} {base : Nat} {e : TypeId} {size n : Nat} {v : Value} {xs : List Value} (h : w.ownsRow base e size v n xs) : ∀ x ∈ (match v.ownBlock with | some g => [g] | none => []),base ≤ x := by
 intro x hx
 cases hv : v.ownBlock with
 | none => rw [hv] at hx;simp at hx
 | some g => rw [hv] at hx;simp at hx;subst hx;exact (h.lt x hv).1

def NrmDone (w : World) (Q R g : Nat) (B : List Int) (l : List Int) (Y : Except Int (List Int × List Bool)) : Prop :=
 match Y with
  | .ok (o,L2) => o = l ∧ ∃ p',L2 = (rowBits B).drop p' ∧ p' ≤ 8 * B.length ∧ DR w Q R g B p' 0
  | .error e => e ≠ 0 ∧ ∃ p',DR w Q R g B p' e
theorem NrmDone.tab {w : World} {Q R g G : Nat} {B l : List Int} {Y : Except Int (List Int × List Bool)} {Z : Except Int (Nat × List Int × List Bool)} (h : NrmDone w Q R g B l Y)
  (hZ : tabOf G Y = Z) : TabDone w Q R g B G l Z := by
 subst hZ
 cases Y with
 | ok z => obtain ⟨h1,p',h2⟩ := h;exact ⟨rfl,h1,p',h2⟩
 | error e => exact h
theorem NrmDone.old {w w' : World} {Q R g N : Nat} {B l : List Int} {Z : Except Int (List Int × List Bool)} {S : List Nat} (h : NrmDone w Q R g B l Z) (k : Keeps w w' S) (hQ : Q < N) (hR : R < N) (hg : 0 < B.length → g < N) (hS : ∀ x ∈ S,N ≤ x) : NrmDone w' Q R g B l Z := by
 cases Z with
 | ok z => obtain ⟨h1,p',h2,h3,h4⟩ := h;exact ⟨h1,p',h2,h3,h4.old k hQ hR hg hS⟩
 | error e => obtain ⟨h1,p',h4⟩ := h;exact ⟨h1,p',h4.old k hQ hR hg hS⟩
def normLen (w : World) (T : Nat) : Nat := match w.cell? ⟨T,1,none⟩ with | some v => lenV v | none => 0
theorem normLen_blk {w : World} {T : Nat} {x : Value} {a : Option Addr} {n c : Nat} (h : Blk w T #[x,.slice a n c] 27) : normLen w T = n := by
 have := h.cell 1
 simp at this
 simp [normLen,this,lenV]

set_option maxHeartbeats 1000000 in
theorem table_any (Q R g symbols : Nat) (log : Int) (B : List Int) (w : World) (h : DR w Q R g B 0 0) (hs : symbols ≤ 256) :
  Calls Tryz.prog 118 #[.pointer (some ⟨Q,0,none⟩),.int .i64 symbols,.int .i64 log] w (TabEnd w Q R g B (tabP B symbols log)) := by
 have hmf : ∀ (fn : Fn) (first cap : Array Value) (w : World),(Instr.makeFunc fn first cap).run Tryz.prog w = .ok (.func fn first cap) w := fun _ _ _ _ => rfl
 obtain ⟨i0,hi,hz0,hz1,hz2⟩ := info_parts Tryz.infoInt
 obtain ⟨Z,hZ⟩ : ∃ Z,tabP B symbols log = Z := ⟨_,rfl⟩
 rw [hZ]
 have HZ := Lib.hid hZ
 clear hZ
 unfold tabP at HZ
 obtain ⟨lQ,lR,lg⟩ := h.lt
 have LG := Lib.hid lg
 have k0 := (Keeps.refl w []).alloc (.cells #[.int .i64 0,.slice none 0 0] 27)
 have b0 := Blk.new w #[.int .i64 0,.slice none 0 0] 27
 have h1 := h.keep k0
 by_cases hA : 4 ≤ 8 * B.length
 ·have HT := Lib.hid (take_ok Q R g 0 4 B _ h1 (by omega) (by omega))
  rw [show rowBits B = (rowBits B).drop 0 from rfl,tk_drop (by omega)] at HZ
  rw [Nat.zero_add] at HT HZ
  simp only at HZ
  have hv := bitsAt_lt B 0 4
  obtain ⟨n,hn⟩ : ∃ n,bitsAt B 0 4 = n := ⟨_,rfl⟩
  rw [hn] at HT HZ hv
  rw [show ((4 : Nat) : Int) = 4 from rfl] at HT
  have hn15 : n ≤ 15 := by omega
  clear h h1 hn hv lg
  go_enter Tryz.func118,Tryz.ntmps118
  go_wp2_with fail
  refine HT.out.mono ?_
  rintro e w1 ⟨rfl,d1,k1⟩
  have b1 := b0.keeps k1 (by simp;omega)
  have kk1 : Keeps w w1 [Q,R] := (k0.mono (S' := [Q,R]) (by simp)).trans k1 (fun j hj _ => by have := List.mem_singleton.1 hj;simp [this])
  have HD1 := Lib.hid d1
  have c0 := b1.cell 0
  have f0 := b1.frozen 0
  simp at c0
  clear d1 k1 b0 k0
  go_wp2_with fail
  have b2 : Blk (w1.setCell ⟨w.heap.size,0,none⟩ (.int .i64 ((n : Int) + 1))) w.heap.size #[.int .i64 ((n : Int) + 1),.slice none 0 0] 27 := by
   have := b1.set 0 (.int .i64 ((n : Int) + 1))
   simpa using this
  have kS : Keeps w1 (w1.setCell ⟨w.heap.size,0,none⟩ (.int .i64 ((n : Int) + 1))) [w.heap.size] := (Keeps.refl w1 _).setCell (.inr (by simp)) _
  have kk2 : Keeps w (w1.setCell ⟨w.heap.size,0,none⟩ (.int .i64 ((n : Int) + 1))) [Q,R] := kk1.trans kS (fun j hj hl => by have := List.mem_singleton.1 hj;omega)
  have HD2 := Lib.hid (HD1.out.keeps kS (by simp;omega) (by simp;omega) (fun h0 => by have := LG.out h0;simp;omega))
  generalize (w1.setCell ⟨w.heap.size,0,none⟩ (.int .i64 ((n : Int) + 1))) = w2 at *
  clear b1 kk1 kS c0 f0 HD1
  by_cases hC : (n : Int) + 1 ≤ min log 9
  ·have hC1 : ¬ (log < (n : Int) + 1 ∨ 8 < n) := by omega
   rw [if_neg hC1] at HZ
   rw [decide_eq_true hC]
   refine (must_true Q R g 4 B 13 w2 HD2.out).mono ?_
   rintro e w3 ⟨rfl,rfl⟩
   have hn8 : n ≤ 8 := by omega
   clear hC hC1
   have c0 := b2.cell 0
   simp at c0
   go_wp2_with fail
   clear c0
   obtain ⟨Y0,hY0⟩ : ∃ Y,normsP symbols (symbols + 1) ((rowBits B).drop 4) (2 ^ (n + 1)) [] false = Y := ⟨_,rfl⟩
   rw [hY0] at HZ
   have hT9 : (2 : Nat) ^ (n + 1) ≤ 2 ^ 9 := Nat.pow_le_pow_right (by decide) (by omega)
   rw [show (2 : Nat) ^ 9 = 512 by decide] at hT9
   have hT1 : 1 ≤ 2 ^ (n + 1) := Nat.two_pow_pos _
   have hTe : ((2 : Int) ^ (n + 1)) = ((2 ^ (n + 1) : Nat) : Int) := by simp
   obtain ⟨T0,hT0⟩ : ∃ T0,(2 : Nat) ^ (n + 1) = T0 := ⟨_,rfl⟩
   rw [hT0] at hT9 hT1 hTe hY0
   rw [hTe,IntWalk.wrap64_in (T0 : Int) ⟨by omega,by omega⟩]
   have HY0 := Lib.hid hY0
   have B2 := Lib.hid b2
   clear hTe hT0 hY0 b2
   go_loopw [8,9] (fun s8 s9 wr => ∃ (L : Nat) (bb : Bool) (l : List Int) (a : Option Addr) (c : Nat),s8 = .int .i64 (L : Int) ∧ s9 = .bool bb ∧ Blk wr w.heap.size #[.int .i64 ((n : Int) + 1),.slice a l.length c] 27 ∧
     wr.ownsRow (w.heap.size + 1) 3 1 (.slice a l.length c) l.length (l.map (.int .i64)) ∧ Keeps w wr [Q,R] ∧ w.heap.size + 1 ≤ wr.heap.size ∧ L ≤ 512 ∧ l.length ≤ 1259 ∧
     ((∃ p' f,p' ≤ 8 * B.length ∧ DR wr Q R g B p' 0 ∧ 1 ≤ f ∧ symbols + 1 ≤ f + l.length ∧ Hid (normsP symbols f ((rowBits B).drop p') L l bb = Y0)) ∨ (∃ e p',e ≠ 0 ∧ DR wr Q R g B p' e ∧ Hid (Y0 = .error e))))
    (fun _ _ wr => 2000 - normLen wr w.heap.size)
   case atStart => exact ⟨T0,false,[],none,0,rfl,rfl,B2.out,World.ownsRow_nil _ _ _ _,kk2,B2.out.lt,hT9,by simp,.inl ⟨4,symbols + 1,hA,HD2.out,by omega,by simp,HY0⟩⟩
   case round =>
    clear HD2 B2 kk2 HY0 HT
    obtain ⟨L,bb,l,a,c,rfl,rfl,bT,own,kk,hsz,hL,hl,hcase⟩ := hrel
    have c0 := bT.cell 0
    have c1 := bT.cell 1
    have f1 := bT.frozen 1
    simp at c0 c1
    have BT := Lib.hid bT
    have OW := Lib.hid own
    have hyoung := young own
    clear bT own
    obtain ⟨ll,hll⟩ : ∃ ll,l.length = ll := ⟨_,rfl⟩
    rw [hll] at c1 BT OW hl hyoung hcase
    have HLL := Lib.hid hll
    clear hll
    have HYG := Lib.hid hyoung
    clear hyoung
    rcases hcase with ⟨p',f,hp',hd,hf1,hf,hy⟩ | ⟨e,p',he,hd,hy⟩
    ·obtain ⟨f',rfl⟩ : ∃ f',f = f' + 1 := ⟨f - 1,by omega⟩
     have HD := Lib.hid hd
     unfold normsP at hy
     by_cases hL0 : L = 0
     ·subst hL0
      have hy1 := hy.out
      rw [if_pos rfl] at hy1
      have HYY := Lib.hid hy1
      clear hy1 hy hd c1 f1
      have c1 := BT.out.cell 1
      simp at c1
      go_wp2_with (refine wpList_store_blk rfl 27 _ _ rfl w.heap.size #[.int .i64 ((n : Int) + 1),.slice a ll c] rfl rfl _ _ (BT.out) tblr_size rfl (by simp [Value.oneCell']) ?_;intro W9 b9 k9)
      refine bodyPost_ret (v := .agg #[.int .i64 ((n : Int) + 1),.slice a ll c]) (res_cell rfl rfl (loadr_tbl b9)) rfl ⟨n + 1,l,a,c,by rw [HLL.out];rfl,?_,by rw [HLL.out];omega,NrmDone.tab ?_ HZ.out,(kk).trans k9 (fun j hj hl => by have := List.mem_singleton.1 hj;omega)⟩
      ·rw [HLL.out]
       exact own_base (own_old (OW.out) k9 (fun x hx hm => by have := List.mem_singleton.1 hm;have := ((OW.out).lt x hx).1;omega)) (by omega)
      rw [← HYY.out]
      exact ⟨rfl,p',rfl,hp',HD.out.old k9 lQ lR LG.out (fun x hx => by have := List.mem_singleton.1 hx;omega)⟩
     ·have hy1 := hy.out
      rw [if_neg hL0] at hy1
      have hLp : (0 : Int) < (L : Int) := by omega
      by_cases hroom : ll < symbols
      ·rw [if_neg (by rw [HLL.out];omega)] at hy1
       have HN := Lib.hid (number_any1 Q R g p' (L + 2) B wr HD.out (by omega) (by omega))
       have hrI : (ll : Int) < (symbols : Int) := by omega
       have hw2 : wrap64 ((L : Int) + 2) = ((L + 2 : Nat) : Int) := IntWalk.wrap64_in _ ⟨by omega,by omega⟩
       have hL2 : ((L + 2 : Nat) : Int) = (L : Int) + 2 := by omega
       rw [hL2] at HN
       have HYY := Lib.hid hy1
       clear hy1 hy hd hw2 hL2
       go_wp2_with fail
       refine (must_true Q R g p' B 13 wr HD.out).mono ?_
       rintro e w3 ⟨rfl,rfl⟩
       go_wp2_with fail
       refine HN.out.mono ?_
       intro e w4 hne
       obtain ⟨k4,hne⟩ := hne
       have b4 := BT.out.keeps k4 (by simp;omega)
       clear c0 c1 f1
       have c0 := b4.cell 0
       have c1 := b4.cell 1
       have f1 := b4.frozen 1
       simp at c0 c1
       have own4 := own_old OW.out k4 (fun x hx hm => by have := (OW.out.lt x hx).1;simp at hm;omega)
       have kk4 : Keeps w w4 [Q,R] := kk.trans k4 (fun j hj _ => hj)
       have hsz4 := k4.size
       have OW4 := Lib.hid own4
       have B4 := Lib.hid b4
       clear own4 b4 k4 HN HD
       cases hnp : numP ((rowBits B).drop p') (L + 2) with
       | error er =>
        rw [hnp] at hne
        have hyy := HYY.out
        rw [hnp] at hyy
        replace HYY := Lib.hid hyy
        obtain ⟨⟨x,rfl⟩,her,p4,d4⟩ := hne
        have HD4 := Lib.hid d4
        have HM := Lib.hid (fun b => must_bad Q R g p4 B b er 13 her w4 d4)
        clear d4 hnp hyy
        obtain ⟨X,hX⟩ : ∃ X,wrap64 (x - 1) = X := ⟨_,rfl⟩
        obtain ⟨R1,e1⟩ : ∃ R,(X != 0) = R := ⟨_,rfl⟩
        go_wp2_with fail
        all_goals
         refine (HM.out _).mono ?_
         rintro e5 w5 ⟨rfl,rfl⟩
         go_wp2_with (refine wpList_store_blk rfl 27 _ _ rfl w.heap.size #[.int .i64 ((n : Int) + 1),.slice a ll c] rfl rfl _ _ (B4.out) tblr_size rfl (by simp [Value.oneCell']) ?_;intro W9 b9 k9)
         refine bodyPost_ret (v := .agg #[.int .i64 ((n : Int) + 1),.slice a ll c]) (res_cell rfl rfl (loadr_tbl b9)) rfl ⟨n + 1,l,a,c,by rw [HLL.out];rfl,?_,by rw [HLL.out];omega,NrmDone.tab ?_ HZ.out,(kk4).trans k9 (fun j hj hl => by have := List.mem_singleton.1 hj;omega)⟩
         ·rw [HLL.out]
          exact own_base (own_old (OW4.out) k9 (fun x hx hm => by have := List.mem_singleton.1 hm;have := ((OW4.out).lt x hx).1;omega)) (by omega)
         rw [← HYY.out]
         exact ⟨her,p4,HD4.out.old k9 lQ lR LG.out (fun x hx => by have := List.mem_singleton.1 hx;omega)⟩
       | ok z =>
        obtain ⟨v,L1⟩ := z
        obtain ⟨hv,-,-⟩ := numP_lt (by omega) hnp
        rw [hnp] at hne
        have hyy := HYY.out
        rw [hnp] at hyy
        simp only at hyy
        obtain ⟨rfl,p4,rfl,hp4,d4⟩ := hne
        have HD4 := Lib.hid d4
        obtain ⟨X,hX⟩ : ∃ X : Int,(v : Int) - 1 = X := ⟨_,rfl⟩
        have hwX : wrap64 X = X := IntWalk.wrap64_in _ ⟨by omega,by omega⟩
        have hll : ll ≤ 255 := by omega
        clear hnp d4
        rw [hX] at hyy
        by_cases hv1 : v = 1
        ·obtain rfl : X = 0 := by omega
         clear hwX
         cases bb with
         | true =>
          rw [if_pos ⟨hv1,rfl⟩] at hyy
          have HY13 := Lib.hid hyy
          have HM := Lib.hid (must_no Q R g p4 B 13 (by decide) w4 HD4.out)
          clear hyy
          go_wp2_with fail
          refine HM.out.mono ?_
          rintro e5 w5 ⟨rfl,d5,k5⟩
          have b5 := B4.out.keeps k5 (by simp;omega)
          clear c0 c1 f1
          have c0 := b5.cell 0
          have c1 := b5.cell 1
          simp at c0 c1
          have own5 := own_old OW4.out k5 (fun x hx hm => by have := List.mem_singleton.1 hm;have := (OW4.out.lt x hx).1;omega)
          have kk5 := kk4.trans k5 (fun j hj _ => by have := List.mem_singleton.1 hj;simp [this])
          have OW5 := Lib.hid own5
          have B5 := Lib.hid b5
          have D5 := Lib.hid d5
          clear own5 b5 d5 k5
          go_wp2_with (refine wpList_store_blk rfl 27 _ _ rfl w.heap.size #[.int .i64 ((n : Int) + 1),.slice a ll c] rfl rfl _ _ (B5.out) tblr_size rfl (by simp [Value.oneCell']) ?_;intro W9 b9 k9)
          refine bodyPost_ret (v := .agg #[.int .i64 ((n : Int) + 1),.slice a ll c]) (res_cell rfl rfl (loadr_tbl b9)) rfl ⟨n + 1,l,a,c,by rw [HLL.out];rfl,?_,by rw [HLL.out];omega,NrmDone.tab ?_ HZ.out,(kk5).trans k9 (fun j hj hl => by have := List.mem_singleton.1 hj;omega)⟩
          ·rw [HLL.out]
           exact own_base (own_old (OW5.out) k9 (fun x hx hm => by have := List.mem_singleton.1 hm;have := ((OW5.out).lt x hx).1;omega)) (by omega)
          rw [← HY13.out]
          exact ⟨by decide,p4,D5.out.old k9 lQ lR LG.out (fun x hx => by have := List.mem_singleton.1 hx;omega)⟩
         | false =>
          rw [if_neg (by rintro ⟨-,h⟩;cases h),if_pos hv1] at hyy
          have HYN := Lib.hid hyy
          have HXV := Lib.hid hX
          clear hyy
          go_wp2_with fail
          refine (must_true Q R g p4 B 13 w4 HD4.out).mono ?_
          rintro e5 w5 ⟨rfl,rfl⟩
          go_wp2_with (at_builtin;(refine wpList_app1I (w := w4) rfl _ _ 25 rfl (w.heap.size + 1) i0 Tryz.underlying25 hi hz0 hz1 hz2 (.slice a ll c) ll l 0 _ rfl rfl rfl OW4.out (by omega) (by omega) ?_;intro a6 c6 w6 own6 k6;have hy6 := HYG.out;have b6 := B4.out.keeps k6 (fun hm => by have := hy6 _ hm;omega);have HB6 := Lib.hid b6;have HO6 := Lib.hid own6;clear own6 c0 c1 f1;have c0 := b6.cell 0;have c1 := b6.cell 1;have f1 := b6.frozen 1;simp at c0 c1;clear b6))
          have kset : Keeps w6 (w6.setCell ⟨w.heap.size,1,none⟩ (.slice a6 (ll + 1) c6)) [w.heap.size] := (Keeps.refl w6 _).setCell (.inr (by simp)) _
          have b7 : Blk (w6.setCell ⟨w.heap.size,1,none⟩ (.slice a6 (ll + 1) c6)) w.heap.size #[.int .i64 ((n : Int) + 1),.slice a6 (ll + 1) c6] 27 := by
           have := HB6.out.set 1 (.slice a6 (ll + 1) c6)
           simpa using this
          have own7 := own_old HO6.out kset (fun x hx hm => by have := List.mem_singleton.1 hm;have := (HO6.out.lt x hx).1;omega)
          have d7 := (HD4.out.old k6 (N := w.heap.size) lQ lR LG.out (fun x hx => by have := HYG.out x hx;omega)).old kset lQ lR LG.out (fun x hx => by have := List.mem_singleton.1 hx;omega)
          have kk7 : Keeps w (w6.setCell ⟨w.heap.size,1,none⟩ (.slice a6 (ll + 1) c6)) [Q,R] := (kk4.trans k6 (fun j hj hl => by have := HYG.out j hj;omega)).trans kset (fun j hj hl => by have := List.mem_singleton.1 hj;omega)
          have hs7 : w.heap.size + 1 ≤ (w6.setCell ⟨w.heap.size,1,none⟩ (.slice a6 (ll + 1) c6)).heap.size := by have := k6.size;have := kset.size;omega
          generalize (w6.setCell ⟨w.heap.size,1,none⟩ (.slice a6 (ll + 1) c6)) = w7 at *
          clear c0 c1 f1 kset HB6 HO6 k6
          have hl7 : (l ++ [0]).length = ll + 1 := by rw [List.length_append,HLL.out];rfl
          obtain ⟨out,hout⟩ : ∃ out,l ++ [0] = out := ⟨_,rfl⟩
          rw [hout] at hl7 own7 HYN
          obtain ⟨room,hro⟩ : ∃ room,symbols - (ll + 1) = room := ⟨_,rfl⟩
          have HNO := Lib.hid (noughts_any Q R g p4 room B out w7.drew (d7.keep ((Keeps.refl w7 []).drew)) (by omega))
          rw [show out.length + room = symbols by omega] at HNO
          obtain ⟨Y1,hY1⟩ : ∃ Y,zerosP symbols (symbols + 1) ((rowBits B).drop p4) out = Y := ⟨_,rfl⟩
          rw [hY1] at HNO HYN
          have HL7 := Lib.hid hl7
          have HO7 := Lib.hid own7
          have B7 := Lib.hid b7
          have hrm : (ll : Int) + 1 + (room : Int) = (symbols : Int) := by omega
          obtain ⟨SR,hSR⟩ : ∃ S : Int,(symbols : Int) - ((ll + 1 : Nat) : Int) = S := ⟨_,rfl⟩
          have hSR' : SR = (room : Int) := by omega
          have hSR2 : (symbols : Int) - ((ll : Int) + 1) = (room : Int) := by omega
          have m1 : IntKind.i64.wrap (room : Int) = (room : Int) := by simp [IntKind.wrap,IntKind.signed,IntKind.bits];omega
          have c1 := b7.cell 1
          have f1 := b7.frozen 1
          simp at c1
          clear hl7 hout own7 b7 hY1 d7 hro hrm hSR hSR'
          refine wp_region_held_drew (S := (fun _ => True)) (by kernel_rfl) trivial (fun hHeld => ?_)
          refine takeM 0 rfl (by intro w9 hSw;clear hSw;go_simp;(try with_reducible rfl)) ?_
          try simp only [Act.put,stA,stZ,stS]
          refine takeM 2 rfl (by intro w9 hSw;clear hSw;go_simp;(try with_reducible rfl)) ?_
          try simp only [Act.put,stA,stZ,stS]
          refine takeM 3 rfl (by intro w9 hSw;clear hSw;go_simp;(try with_reducible rfl)) ?_
          try simp only [Act.put,stA,stZ,stS]
          refine takeM 4 rfl (by intro w9 hSw;clear hSw;go_simp;(try with_reducible rfl)) ?_
          try simp only [Act.put,stA,stZ,stS]
          refine takeM 8 rfl (by intro w9 hSw;clear hSw;go_simp;(try with_reducible rfl)) ?_
          try simp only [Act.put,stA,stZ,stS]
          refine call2L (i := 1) (j := 5) rfl rfl (by kernel_rfl) (fun Kont hK => ?_) (fun Kont hK => ?_)
          ·go_simp
           refine hK.out _ _ trivial (fun hHeld => ?_)
           clear hK Kont
           refine callL (i := 5) rfl (by kernel_rfl) (fun Kont hK => ?_)
           go_simp
           refine hK.out _ _ trivial (fun hHeld => ?_)
           clear hK Kont
           refine takeM 6 rfl (by intro w9 hSw;clear hSw;go_simp;(try with_reducible rfl)) ?_
           try simp only [Act.put,stA,stZ,stS]
           refine takeM 7 rfl (by intro w9 hSw;clear hSw;go_simp;(try with_reducible rfl)) ?_
           try simp only [Act.put,stA,stZ,stS]
           refine callL (i := 9) rfl (by kernel_rfl) (fun Kont hK => ?_)
           go_simp
           refine HNO.out.mono ?_
           rintro e8 w8 ⟨m,a8,c8,rfl,own8,hm8,hdone,k8⟩
           have k8' : Keeps w7 w8 [Q,R] := ((Keeps.refl w7 []).drew.mono (S' := [Q,R]) (fun _ h => by cases h)).trans k8 (fun j hj _ => hj)
           have b8 := B7.out.keeps k8' (by simp;omega)
           have c8' := b8.cell 1
           have f8 := b8.frozen 1
           simp at c8'
           have B8 := Lib.hid b8
           have O8 := Lib.hid own8
           have N8 := Lib.hid hdone
           clear b8 own8 hdone
           go_wp2_with fail
           refine hK.out _ _ trivial (fun hHeld => ?_)
           clear hK Kont
           have hzl : (List.replicate m (0 : Int)).length = m := List.length_replicate
           obtain ⟨zs,hzs⟩ : ∃ zs,List.replicate m (0 : Int) = zs := ⟨_,rfl⟩
           have N8' : NrmDone w8 Q R g B (out ++ List.replicate m 0) Y1 := N8.out
           have O8' := O8.out
           rw [hzs] at hzl N8' O8'
           obtain rfl : m = zs.length := hzl.symm
           have RD8 := Lib.hid (own_reads O8')
           have OW8 := Lib.hid (own_old HO7.out k8' (fun x hx hm => by have := (HO7.out.lt x hx).1;simp at hm;omega))
           have YG8 := Lib.hid (young HO7.out)
           have N9 := Lib.hid N8'
           have hs8 := k8'.size
           have hzle : zs.length ≤ 1000 := hm8
           clear hzs O8' N8' O8 N8 hm8
           refine callL (i := 10) rfl (by kernel_rfl) (fun Kont hK => ?_)
           refine step_appendI rfl _ _ 25 rfl (w.heap.size + 1) 3 i0 (.int .i64 0) 8 Tryz.underlying25 hi hz0 hz1 hz2 rfl (.slice a6 (ll + 1) c6) (ll + 1) (out.map (.int .i64)) rfl OW8.out _ rfl .i64 zs RD8.out (by unfold maxLen;omega) (by omega) (by omega) ?_
           intro v9 w9 own9 g9
           obtain ⟨a9,c9,rfl⟩ := own_form own9
           have k9 : Keeps w8 w9 (match Value.ownBlock (.slice a6 (ll + 1) c6) with | some g => [g] | none => []) := Keeps.of_grown g9 (fun k hk => by rw [hk];simp)
           have b9 := B8.out.keeps k9 (fun hm => by have := YG8.out _ hm;omega)
           have kk9 := (kk7.trans k8' (fun j hj _ => hj)).trans k9 (fun j hj hl => by have := YG8.out j hj;omega)
           have ND9 := Lib.hid (N9.out.old k9 (N := w.heap.size) lQ lR LG.out (fun x hx => by have := YG8.out x hx;omega))
           have c1 := b9.cell 1
           have f1 := b9.frozen 1
           simp at c1
           have B9 := Lib.hid b9
           have O9 := Lib.hid own9
           have hs9 := k9.size
           clear g9 b9 own9 k9 N9
           refine hK.out _ _ trivial (fun hHeld => ?_)
           clear hK Kont
           refine takeM 11 rfl (by intro w9 hSw;clear hSw;go_simp;(try with_reducible rfl)) ?_
           try simp only [Act.put,stA,stZ,stS]
           refine callL (i := 12) rfl (by kernel_rfl) (fun Kont hK => ?_)
           go_simp
           refine hK.out _ _ trivial (fun hHeld => ?_)
           clear hK Kont
           refine wpAnyH_done (by kernel_rfl) ?_ _
           have kset : Keeps w9 (w9.setCell ⟨w.heap.size,1,none⟩ (.slice a9 (ll + 1 + zs.length) c9)) [w.heap.size] := (Keeps.refl w9 _).setCell (.inr (by simp)) _
           have b10 : Blk (w9.setCell ⟨w.heap.size,1,none⟩ (.slice a9 (ll + 1 + zs.length) c9)) w.heap.size #[.int .i64 ((n : Int) + 1),.slice a9 (ll + 1 + zs.length) c9] 27 := by
            have := B9.out.set 1 (.slice a9 (ll + 1 + zs.length) c9)
            simpa using this
           have own10 := own_old O9.out kset (fun x hx hm => by have := List.mem_singleton.1 hm;have := (O9.out.lt x hx).1;omega)
           have nd10 := ND9.out.old kset (N := w.heap.size) lQ lR LG.out (fun x hx => by have := List.mem_singleton.1 hx;omega)
           have kk10 := kk9.trans kset (fun j hj hl => by have := List.mem_singleton.1 hj;omega)
           have hs10 : w.heap.size + 1 ≤ (w9.setCell ⟨w.heap.size,1,none⟩ (.slice a9 (ll + 1 + zs.length) c9)).heap.size := by have := kset.size;omega
           clear c1 f1 kset
           generalize (w9.setCell ⟨w.heap.size,1,none⟩ (.slice a9 (ll + 1 + zs.length) c9)) = w10 at *
           have hl10 : (out ++ zs).length = ll + 1 + zs.length := by rw [List.length_append,HL7.out]
           rw [← List.map_append,← hl10] at own10
           rw [← hl10] at b10
           have B10 := Lib.hid b10
           have O10 := Lib.hid own10
           have N10 := Lib.hid nd10
           have K10 := Lib.hid kk10
           have HL10 := Lib.hid hl10
           rw [← hl10]
           clear b10 own10 nd10 kk10 hl10
           go_wp2_with fail
           go_roundw
           case rel =>
            refine ⟨L,true,out ++ zs,a9,c9,rfl,rfl,B10.out,O10.out,K10.out,hs10,hL,by rw [HL10.out];omega,?_⟩
            have hN := N10.out
            have hy := HYN.out
            cases Y1 with
            | ok z =>
             obtain ⟨o,L2⟩ := z
             obtain ⟨rfl,p5,rfl,hp5,d5⟩ := hN
             exact .inl ⟨p5,f',hp5,d5,by omega,by rw [HL10.out];omega,hy⟩
            | error er =>
             obtain ⟨her,p5,d5⟩ := hN
             exact .inr ⟨er,p5,her,d5,hy.symm⟩
           case measure =>
            rw [normLen_blk B10.out,normLen_blk BT.out,HL10.out]
            omega
          ·go_simp
           refine hK.out _ _ trivial (fun hHeld => ?_)
           clear hK Kont
           refine takeM 6 rfl (by intro w9 hSw;clear hSw;go_simp;(try with_reducible rfl)) ?_
           try simp only [Act.put,stA,stZ,stS]
           refine takeM 7 rfl (by intro w9 hSw;clear hSw;go_simp;(try with_reducible rfl)) ?_
           try simp only [Act.put,stA,stZ,stS]
           refine call2L (i := 1) (j := 9) rfl rfl (by kernel_rfl) (fun Kont hK => ?_) (fun Kont hK => ?_)
           ·go_simp
            refine hK.out _ _ trivial (fun hHeld => ?_)
            clear hK Kont
            refine callL (i := 9) rfl (by kernel_rfl) (fun Kont hK => ?_)
            go_simp
            refine HNO.out.mono ?_
            rintro e8 w8 ⟨m,a8,c8,rfl,own8,hm8,hdone,k8⟩
            have k8' : Keeps w7 w8 [Q,R] := ((Keeps.refl w7 []).drew.mono (S' := [Q,R]) (fun _ h => by cases h)).trans k8 (fun j hj _ => hj)
            have b8 := B7.out.keeps k8' (by simp;omega)
            have c8' := b8.cell 1
            have f8 := b8.frozen 1
            simp at c8'
            have B8 := Lib.hid b8
            have O8 := Lib.hid own8
            have N8 := Lib.hid hdone
            clear b8 own8 hdone
            go_wp2_with fail
            refine hK.out _ _ trivial (fun hHeld => ?_)
            clear hK Kont
            have hzl : (List.replicate m (0 : Int)).length = m := List.length_replicate
            obtain ⟨zs,hzs⟩ : ∃ zs,List.replicate m (0 : Int) = zs := ⟨_,rfl⟩
            have N8' : NrmDone w8 Q R g B (out ++ List.replicate m 0) Y1 := N8.out
            have O8' := O8.out
            rw [hzs] at hzl N8' O8'
            obtain rfl : m = zs.length := hzl.symm
            have RD8 := Lib.hid (own_reads O8')
            have OW8 := Lib.hid (own_old HO7.out k8' (fun x hx hm => by have := (HO7.out.lt x hx).1;simp at hm;omega))
            have YG8 := Lib.hid (young HO7.out)
            have N9 := Lib.hid N8'
            have hs8 := k8'.size
            have hzle : zs.length ≤ 1000 := hm8
            clear hzs O8' N8' O8 N8 hm8
            refine callL (i := 10) rfl (by kernel_rfl) (fun Kont hK => ?_)
            refine step_appendI rfl _ _ 25 rfl (w.heap.size + 1) 3 i0 (.int .i64 0) 8 Tryz.underlying25 hi hz0 hz1 hz2 rfl (.slice a6 (ll + 1) c6) (ll + 1) (out.map (.int .i64)) rfl OW8.out _ rfl .i64 zs RD8.out (by unfold maxLen;omega) (by omega) (by omega) ?_
            intro v9 w9 own9 g9
            obtain ⟨a9,c9,rfl⟩ := own_form own9
            have k9 : Keeps w8 w9 (match Value.ownBlock (.slice a6 (ll + 1) c6) with | some g => [g] | none => []) := Keeps.of_grown g9 (fun k hk => by rw [hk];simp)
            have b9 := B8.out.keeps k9 (fun hm => by have := YG8.out _ hm;omega)
            have kk9 := (kk7.trans k8' (fun j hj _ => hj)).trans k9 (fun j hj hl => by have := YG8.out j hj;omega)
            have ND9 := Lib.hid (N9.out.old k9 (N := w.heap.size) lQ lR LG.out (fun x hx => by have := YG8.out x hx;omega))
            have c1 := b9.cell 1
            have f1 := b9.frozen 1
            simp at c1
            have B9 := Lib.hid b9
            have O9 := Lib.hid own9
            have hs9 := k9.size
            clear g9 b9 own9 k9 N9
            refine hK.out _ _ trivial (fun hHeld => ?_)
            clear hK Kont
            refine takeM 11 rfl (by intro w9 hSw;clear hSw;go_simp;(try with_reducible rfl)) ?_
            try simp only [Act.put,stA,stZ,stS]
            refine callL (i := 12) rfl (by kernel_rfl) (fun Kont hK => ?_)
            go_simp
            refine hK.out _ _ trivial (fun hHeld => ?_)
            clear hK Kont
            refine wpAnyH_done (by kernel_rfl) ?_ _
            have kset : Keeps w9 (w9.setCell ⟨w.heap.size,1,none⟩ (.slice a9 (ll + 1 + zs.length) c9)) [w.heap.size] := (Keeps.refl w9 _).setCell (.inr (by simp)) _
            have b10 : Blk (w9.setCell ⟨w.heap.size,1,none⟩ (.slice a9 (ll + 1 + zs.length) c9)) w.heap.size #[.int .i64 ((n : Int) + 1),.slice a9 (ll + 1 + zs.length) c9] 27 := by
             have := B9.out.set 1 (.slice a9 (ll + 1 + zs.length) c9)
             simpa using this
            have own10 := own_old O9.out kset (fun x hx hm => by have := List.mem_singleton.1 hm;have := (O9.out.lt x hx).1;omega)
            have nd10 := ND9.out.old kset (N := w.heap.size) lQ lR LG.out (fun x hx => by have := List.mem_singleton.1 hx;omega)
            have kk10 := kk9.trans kset (fun j hj hl => by have := List.mem_singleton.1 hj;omega)
            have hs10 : w.heap.size + 1 ≤ (w9.setCell ⟨w.heap.size,1,none⟩ (.slice a9 (ll + 1 + zs.length) c9)).heap.size := by have := kset.size;omega
            clear c1 f1 kset
            generalize (w9.setCell ⟨w.heap.size,1,none⟩ (.slice a9 (ll + 1 + zs.length) c9)) = w10 at *
            have hl10 : (out ++ zs).length = ll + 1 + zs.length := by rw [List.length_append,HL7.out]
            rw [← List.map_append,← hl10] at own10
            rw [← hl10] at b10
            have B10 := Lib.hid b10
            have O10 := Lib.hid own10
            have N10 := Lib.hid nd10
            have K10 := Lib.hid kk10
            have HL10 := Lib.hid hl10
            rw [← hl10]
            clear b10 own10 nd10 kk10 hl10
            go_wp2_with fail
            go_roundw
            case rel =>
             refine ⟨L,true,out ++ zs,a9,c9,rfl,rfl,B10.out,O10.out,K10.out,hs10,hL,by rw [HL10.out];omega,?_⟩
             have hN := N10.out
             have hy := HYN.out
             cases Y1 with
             | ok z =>
              obtain ⟨o,L2⟩ := z
              obtain ⟨rfl,p5,rfl,hp5,d5⟩ := hN
              exact .inl ⟨p5,f',hp5,d5,by omega,by rw [HL10.out];omega,hy⟩
             | error er =>
              obtain ⟨her,p5,d5⟩ := hN
              exact .inr ⟨er,p5,her,d5,hy.symm⟩
            case measure =>
             rw [normLen_blk B10.out,normLen_blk BT.out,HL10.out]
             omega
           ·go_simp
            refine HNO.out.mono ?_
            rintro e8 w8 ⟨m,a8,c8,rfl,own8,hm8,hdone,k8⟩
            have k8' : Keeps w7 w8 [Q,R] := ((Keeps.refl w7 []).drew.mono (S' := [Q,R]) (fun _ h => by cases h)).trans k8 (fun j hj _ => hj)
            have b8 := B7.out.keeps k8' (by simp;omega)
            have c8' := b8.cell 1
            have f8 := b8.frozen 1
            simp at c8'
            have B8 := Lib.hid b8
            have O8 := Lib.hid own8
            have N8 := Lib.hid hdone
            clear b8 own8 hdone
            go_wp2_with fail
            refine hK.out _ _ trivial (fun hHeld => ?_)
            clear hK Kont
            refine callL (i := 1) rfl (by kernel_rfl) (fun Kont hK => ?_)
            go_simp
            refine hK.out _ _ trivial (fun hHeld => ?_)
            clear hK Kont
            have hzl : (List.replicate m (0 : Int)).length = m := List.length_replicate
            obtain ⟨zs,hzs⟩ : ∃ zs,List.replicate m (0 : Int) = zs := ⟨_,rfl⟩
            have N8' : NrmDone w8 Q R g B (out ++ List.replicate m 0) Y1 := N8.out
            have O8' := O8.out
            rw [hzs] at hzl N8' O8'
            obtain rfl : m = zs.length := hzl.symm
            have RD8 := Lib.hid (own_reads O8')
            have OW8 := Lib.hid (own_old HO7.out k8' (fun x hx hm => by have := (HO7.out.lt x hx).1;simp at hm;omega))
            have YG8 := Lib.hid (young HO7.out)
            have N9 := Lib.hid N8'
            have hs8 := k8'.size
            have hzle : zs.length ≤ 1000 := hm8
            clear hzs O8' N8' O8 N8 hm8
            refine callL (i := 10) rfl (by kernel_rfl) (fun Kont hK => ?_)
            refine step_appendI rfl _ _ 25 rfl (w.heap.size + 1) 3 i0 (.int .i64 0) 8 Tryz.underlying25 hi hz0 hz1 hz2 rfl (.slice a6 (ll + 1) c6) (ll + 1) (out.map (.int .i64)) rfl OW8.out _ rfl .i64 zs RD8.out (by unfold maxLen;omega) (by omega) (by omega) ?_
            intro v9 w9 own9 g9
            obtain ⟨a9,c9,rfl⟩ := own_form own9
            have k9 : Keeps w8 w9 (match Value.ownBlock (.slice a6 (ll + 1) c6) with | some g => [g] | none => []) := Keeps.of_grown g9 (fun k hk => by rw [hk];simp)
            have b9 := B8.out.keeps k9 (fun hm => by have := YG8.out _ hm;omega)
            have kk9 := (kk7.trans k8' (fun j hj _ => hj)).trans k9 (fun j hj hl => by have := YG8.out j hj;omega)
            have ND9 := Lib.hid (N9.out.old k9 (N := w.heap.size) lQ lR LG.out (fun x hx => by have := YG8.out x hx;omega))
            have c1 := b9.cell 1
            have f1 := b9.frozen 1
            simp at c1
            have B9 := Lib.hid b9
            have O9 := Lib.hid own9
            have hs9 := k9.size
            clear g9 b9 own9 k9 N9
            refine hK.out _ _ trivial (fun hHeld => ?_)
            clear hK Kont
            refine takeM 11 rfl (by intro w9 hSw;clear hSw;go_simp;(try with_reducible rfl)) ?_
            try simp only [Act.put,stA,stZ,stS]
            refine callL (i := 12) rfl (by kernel_rfl) (fun Kont hK => ?_)
            go_simp
            refine hK.out _ _ trivial (fun hHeld => ?_)
            clear hK Kont
            refine wpAnyH_done (by kernel_rfl) ?_ _
            have kset : Keeps w9 (w9.setCell ⟨w.heap.size,1,none⟩ (.slice a9 (ll + 1 + zs.length) c9)) [w.heap.size] := (Keeps.refl w9 _).setCell (.inr (by simp)) _
            have b10 : Blk (w9.setCell ⟨w.heap.size,1,none⟩ (.slice a9 (ll + 1 + zs.length) c9)) w.heap.size #[.int .i64 ((n : Int) + 1),.slice a9 (ll + 1 + zs.length) c9] 27 := by
             have := B9.out.set 1 (.slice a9 (ll + 1 + zs.length) c9)
             simpa using this
            have own10 := own_old O9.out kset (fun x hx hm => by have := List.mem_singleton.1 hm;have := (O9.out.lt x hx).1;omega)
            have nd10 := ND9.out.old kset (N := w.heap.size) lQ lR LG.out (fun x hx => by have := List.mem_singleton.1 hx;omega)
            have kk10 := kk9.trans kset (fun j hj hl => by have := List.mem_singleton.1 hj;omega)
            have hs10 : w.heap.size + 1 ≤ (w9.setCell ⟨w.heap.size,1,none⟩ (.slice a9 (ll + 1 + zs.length) c9)).heap.size := by have := kset.size;omega
            clear c1 f1 kset
            generalize (w9.setCell ⟨w.heap.size,1,none⟩ (.slice a9 (ll + 1 + zs.length) c9)) = w10 at *
            have hl10 : (out ++ zs).length = ll + 1 + zs.length := by rw [List.length_append,HL7.out]
            rw [← List.map_append,← hl10] at own10
            rw [← hl10] at b10
            have B10 := Lib.hid b10
            have O10 := Lib.hid own10
            have N10 := Lib.hid nd10
            have K10 := Lib.hid kk10
            have HL10 := Lib.hid hl10
            rw [← hl10]
            clear b10 own10 nd10 kk10 hl10
            go_wp2_with fail
            go_roundw
            case rel =>
             refine ⟨L,true,out ++ zs,a9,c9,rfl,rfl,B10.out,O10.out,K10.out,hs10,hL,by rw [HL10.out];omega,?_⟩
             have hN := N10.out
             have hy := HYN.out
             cases Y1 with
             | ok z =>
              obtain ⟨o,L2⟩ := z
              obtain ⟨rfl,p5,rfl,hp5,d5⟩ := hN
              exact .inl ⟨p5,f',hp5,d5,by omega,by rw [HL10.out];omega,hy⟩
             | error er =>
              obtain ⟨her,p5,d5⟩ := hN
              exact .inr ⟨er,p5,her,d5,hy.symm⟩
            case measure =>
             rw [normLen_blk B10.out,normLen_blk BT.out,HL10.out]
             omega
        ·have hX0 : (X != 0) = true := by simp;omega
         have hX1 : (X == 0) = false := by simp;omega
         rw [if_neg (by rintro ⟨h,-⟩;exact hv1 h),if_neg hv1] at hyy
         obtain ⟨L9,hL9⟩ : ∃ L9,L - (if v = 0 then 1 else v - 1) = L9 := ⟨_,rfl⟩
         have hL9' : L9 ≤ 512 := by split at hL9 <;> omega
         obtain ⟨N,hN⟩ : ∃ N : Int,-X = N := ⟨_,rfl⟩
         obtain ⟨M,hM⟩ : ∃ M : Int,max X N = M := ⟨_,rfl⟩
         obtain ⟨D,hD⟩ : ∃ D : Int,(L : Int) - M = D := ⟨_,rfl⟩
         have hDL : D = (L9 : Int) := by split at hL9 <;> omega
         have hwN : wrap64 N = N := IntWalk.wrap64_in _ ⟨by omega,by omega⟩
         have hwD : wrap64 D = D := IntWalk.wrap64_in _ ⟨by omega,by omega⟩
         rw [hL9] at hyy
         have HYN := Lib.hid hyy
         have HXV := Lib.hid hX
         have HDL := Lib.hid hDL
         clear hyy hL9 hDL
         go_wp2_with fail
         refine (must_true Q R g p4 B 13 w4 HD4.out).mono ?_
         rintro e5 w5 ⟨rfl,rfl⟩
         go_wp2_with (at_builtin;(refine wpList_app1I (w := w4) rfl _ _ 25 rfl (w.heap.size + 1) i0 Tryz.underlying25 hi hz0 hz1 hz2 (.slice a ll c) ll l X _ rfl rfl rfl OW4.out (by omega) (by omega) ?_;intro a6 c6 w6 own6 k6;have hy6 := HYG.out;have b6 := B4.out.keeps k6 (fun hm => by have := hy6 _ hm;omega);have HB6 := Lib.hid b6;have HO6 := Lib.hid own6;clear own6 c0 c1 f1;have c0 := b6.cell 0;have c1 := b6.cell 1;have f1 := b6.frozen 1;simp at c0 c1;clear b6))
         have kset : Keeps w6 (w6.setCell ⟨w.heap.size,1,none⟩ (.slice a6 (ll + 1) c6)) [w.heap.size] := (Keeps.refl w6 _).setCell (.inr (by simp)) _
         have b7 : Blk (w6.setCell ⟨w.heap.size,1,none⟩ (.slice a6 (ll + 1) c6)) w.heap.size #[.int .i64 ((n : Int) + 1),.slice a6 (ll + 1) c6] 27 := by
          have := HB6.out.set 1 (.slice a6 (ll + 1) c6)
          simpa using this
         have own7 := own_old HO6.out kset (fun x hx hm => by have := List.mem_singleton.1 hm;have := (HO6.out.lt x hx).1;omega)
         have d7 := (HD4.out.old k6 (N := w.heap.size) lQ lR LG.out (fun x hx => by have := HYG.out x hx;omega)).old kset lQ lR LG.out (fun x hx => by have := List.mem_singleton.1 hx;omega)
         have kk7 : Keeps w (w6.setCell ⟨w.heap.size,1,none⟩ (.slice a6 (ll + 1) c6)) [Q,R] := (kk4.trans k6 (fun j hj hl => by have := HYG.out j hj;omega)).trans kset (fun j hj hl => by have := List.mem_singleton.1 hj;omega)
         have hs7 : w.heap.size + 1 ≤ (w6.setCell ⟨w.heap.size,1,none⟩ (.slice a6 (ll + 1) c6)).heap.size := by have := k6.size;have := kset.size;omega
         generalize (w6.setCell ⟨w.heap.size,1,none⟩ (.slice a6 (ll + 1) c6)) = w7 at *
         have hl7 : (l ++ [X]).length = ll + 1 := by rw [List.length_append,HLL.out];rfl
         rw [← hl7] at b7 own7
         go_roundw
         case rel => exact ⟨L9,false,l ++ [X],a6,c6,by rw [HDL.out],rfl,b7,own7,kk7,hs7,hL9',by rw [hl7];omega,.inl ⟨p4,f',hp4,d7,by omega,by rw [hl7];omega,HYN⟩⟩
         case measure =>
          rw [normLen_blk b7,normLen_blk BT.out,hl7]
          omega
      ·rw [if_pos (by rw [HLL.out];omega)] at hy1
       have HYY := Lib.hid hy1
       have HM := Lib.hid (must_no Q R g p' B 13 (by decide) wr HD.out)
       have hrI : decide ((ll : Int) < (symbols : Int)) = false := decide_eq_false (by omega)
       have hrN : decide (ll < symbols) = false := decide_eq_false (by omega)
       clear hy1 hy hd
       go_wp2_with fail
       refine HM.out.mono ?_
       rintro e w3 ⟨rfl,d3,k3⟩
       have b3 := BT.out.keeps k3 (by simp;omega)
       clear c0 c1 f1
       have c0 := b3.cell 0
       have c1 := b3.cell 1
       simp at c0 c1
       have own3 := own_old OW.out k3 (fun x hx hm => by have := List.mem_singleton.1 hm;have := (OW.out.lt x hx).1;omega)
       have kk3 := kk.trans k3 (fun j hj _ => by have := List.mem_singleton.1 hj;simp [this])
       have OW3 := Lib.hid own3
       have B3 := Lib.hid b3
       have D3 := Lib.hid d3
       clear own3 b3 d3 k3
       go_wp2_with (refine wpList_store_blk rfl 27 _ _ rfl w.heap.size #[.int .i64 ((n : Int) + 1),.slice a ll c] rfl rfl _ _ (B3.out) tblr_size rfl (by simp [Value.oneCell']) ?_;intro W9 b9 k9)
       refine bodyPost_ret (v := .agg #[.int .i64 ((n : Int) + 1),.slice a ll c]) (res_cell rfl rfl (loadr_tbl b9)) rfl ⟨n + 1,l,a,c,by rw [HLL.out];rfl,?_,by rw [HLL.out];omega,NrmDone.tab ?_ HZ.out,(kk3).trans k9 (fun j hj hl => by have := List.mem_singleton.1 hj;omega)⟩
       ·rw [HLL.out]
        exact own_base (own_old (OW3.out) k9 (fun x hx hm => by have := List.mem_singleton.1 hm;have := ((OW3.out).lt x hx).1;omega)) (by omega)
       rw [← HYY.out]
       exact ⟨by decide,p',D3.out.old k9 lQ lR LG.out (fun x hx => by have := List.mem_singleton.1 hx;omega)⟩
    ·have HD := Lib.hid hd
     by_cases hL0 : L = 0
     ·subst hL0
      go_wp2_with (refine wpList_store_blk rfl 27 _ _ rfl w.heap.size #[.int .i64 ((n : Int) + 1),.slice a ll c] rfl rfl _ _ (BT.out) tblr_size rfl (by simp [Value.oneCell']) ?_;intro W9 b9 k9)
      refine bodyPost_ret (v := .agg #[.int .i64 ((n : Int) + 1),.slice a ll c]) (res_cell rfl rfl (loadr_tbl b9)) rfl ⟨n + 1,l,a,c,by rw [HLL.out];rfl,?_,by rw [HLL.out];omega,NrmDone.tab ?_ HZ.out,(kk).trans k9 (fun j hj hl => by have := List.mem_singleton.1 hj;omega)⟩
      ·rw [HLL.out]
       exact own_base (own_old (OW.out) k9 (fun x hx hm => by have := List.mem_singleton.1 hm;have := ((OW.out).lt x hx).1;omega)) (by omega)
      rw [hy.out]
      exact ⟨he,p',HD.out.old k9 lQ lR LG.out (fun x hx => by have := List.mem_singleton.1 hx;omega)⟩
     ·have hLp : (0 : Int) < (L : Int) := by omega
      have HM := Lib.hid (fun b => must_bad Q R g p' B b e 13 he wr HD.out)
      have HYY := Lib.hid hy.out
      clear hy hd
      go_wp2_with fail
      refine (HM.out _).mono ?_
      rintro e2 w3 ⟨rfl,rfl⟩
      go_wp2_with (refine wpList_store_blk rfl 27 _ _ rfl w.heap.size #[.int .i64 ((n : Int) + 1),.slice a ll c] rfl rfl _ _ (BT.out) tblr_size rfl (by simp [Value.oneCell']) ?_;intro W9 b9 k9)
      refine bodyPost_ret (v := .agg #[.int .i64 ((n : Int) + 1),.slice a ll c]) (res_cell rfl rfl (loadr_tbl b9)) rfl ⟨n + 1,l,a,c,by rw [HLL.out];rfl,?_,by rw [HLL.out];omega,NrmDone.tab ?_ HZ.out,(kk).trans k9 (fun j hj hl => by have := List.mem_singleton.1 hj;omega)⟩
      ·rw [HLL.out]
       exact own_base (own_old (OW.out) k9 (fun x hx hm => by have := List.mem_singleton.1 hm;have := ((OW.out).lt x hx).1;omega)) (by omega)
      rw [HYY.out]
      exact ⟨he,p',HD.out.old k9 lQ lR LG.out (fun x hx => by have := List.mem_singleton.1 hx;omega)⟩
  ·have hC1 : log < (n : Int) + 1 ∨ 8 < n := by omega
   rw [if_pos hC1] at HZ
   rw [decide_eq_false hC]
   refine (must_no Q R g 4 B 13 (by decide) w2 HD2.out).mono ?_
   rintro e w3 ⟨rfl,d3,k3⟩
   have b3 := b2.keeps k3 (by simp;omega)
   have kk3 : Keeps w w3 [Q,R] := kk2.trans k3 (fun j hj _ => by have := List.mem_singleton.1 hj;simp [this])
   have HD3 := Lib.hid d3
   have c0 := b3.cell 0
   have c1 := b3.cell 1
   simp at c0 c1
   clear d3 k3 b2 kk2 hC hC1
   go_wp2_with (refine wpList_store_blk rfl 27 _ _ rfl w.heap.size #[.int .i64 ((n : Int) + 1),.slice none 0 0] rfl rfl _ _ b3 tblr_size rfl (by simp [Value.oneCell']) ?_;intro W9 b9 k9)
   refine bodyPost_ret (v := .agg #[.int .i64 ((n : Int) + 1),.slice none 0 0]) (res_cell rfl rfl (loadr_tbl b9)) rfl ⟨n + 1,[],none,0,rfl,World.ownsRow_nil _ _ _ _,by simp,?_,kk3.trans k9 (fun j hj hl => by have := List.mem_singleton.1 hj;omega)⟩
   rw [← HZ.out]
   exact ⟨by decide,4,HD3.out.old k9 lQ lR LG.out (fun x hx => by have := List.mem_singleton.1 hx;omega)⟩
 ·have HT := Lib.hid (take_no Q R g 0 4 B _ h1 (by omega) (by omega))
  rw [show rowBits B = (rowBits B).drop 0 from rfl,tk_short (by omega) (by omega)] at HZ
  simp only at HZ
  rw [show ((4 : Nat) : Int) = 4 from rfl] at HT
  clear h h1 lg
  go_enter Tryz.func118,Tryz.ntmps118
  go_wp2_with fail
  refine HT.out.mono ?_
  rintro e w1 ⟨rfl,d1,k1⟩
  have b1 := b0.keeps k1 (by simp;omega)
  have kk1 : Keeps w w1 [Q,R] := (k0.mono (S' := [Q,R]) (by simp)).trans k1 (fun j hj _ => by have := List.mem_singleton.1 hj;simp [this])
  have HD1 := Lib.hid d1
  have c0 := b1.cell 0
  have f0 := b1.frozen 0
  simp at c0
  clear d1 k1 b0 k0
  go_wp2_with fail
  have b2 : Blk (w1.setCell ⟨w.heap.size,0,none⟩ (.int .i64 1)) w.heap.size #[.int .i64 1,.slice none 0 0] 27 := by
   have := b1.set 0 (.int .i64 1)
   simpa using this
  have kS : Keeps w1 (w1.setCell ⟨w.heap.size,0,none⟩ (.int .i64 1)) [w.heap.size] := (Keeps.refl w1 _).setCell (.inr (by simp)) _
  have kk2 : Keeps w (w1.setCell ⟨w.heap.size,0,none⟩ (.int .i64 1)) [Q,R] := kk1.trans kS (fun j hj hl => by have := List.mem_singleton.1 hj;omega)
  have HD2 := Lib.hid (HD1.out.keeps kS (by simp;omega) (by simp;omega) (fun h0 => by have := LG.out h0;simp;omega))
  generalize (w1.setCell ⟨w.heap.size,0,none⟩ (.int .i64 1)) = w2 at *
  clear b1 kk1 kS c0 f0 HD1
  refine (must_bad Q R g 0 B _ 3 13 (by decide) w2 HD2.out).mono ?_
  rintro e w3 ⟨rfl,rfl⟩
  have c0 := b2.cell 0
  have c1 := b2.cell 1
  simp at c0 c1
  go_wp2_with (refine wpList_store_blk rfl 27 _ _ rfl w.heap.size #[.int .i64 1,.slice none 0 0] rfl rfl _ _ b2 tblr_size rfl (by simp [Value.oneCell']) ?_;intro W9 b9 k9)
  refine bodyPost_ret (v := .agg #[.int .i64 1,.slice none 0 0]) (res_cell rfl rfl (loadr_tbl b9)) rfl ⟨1,[],none,0,rfl,World.ownsRow_nil _ _ _ _,by simp,?_,kk2.trans k9 (fun j hj hl => by have := List.mem_singleton.1 hj;omega)⟩
  rw [← HZ.out]
  exact ⟨by decide,0,HD2.out.old k9 lQ lR LG.out (fun x hx => by have := List.mem_singleton.1 hx;omega)⟩


end Go.Proofs.YtcmagccfagijlaaGreat
