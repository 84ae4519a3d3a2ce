/-
  Walks over package dict: the steps of full. (Printed by mkGa.py.)
-/
import Derived.Test.YtcmagccfagijlaaGreatQ6
import Derived.Test.YtcmagccfagijlaaGreatQ7
import Derived.Test.YtcmagccfagijlaaGreatQ16
import Derived.Test.YtcmagccfagijlaaGreatQ1
import Derived.Deep.MidRow
namespace Go.Proofs.YtcmagccfagijlaaGreat
set_option linter.unusedVariables false
set_option linter.unusedSimpArgs false
set_option linter.unusedSectionVars false
set_option maxRecDepth 100000
open Go.RowKit

theorem setCells_two {w : World} {b o : Nat} {x y : Value} {cs : Array Value} {T : TypeId} (h : Blk w b cs T) : Blk (w.setCells b o [x,y]) b ((cs.setIfInBounds o x).setIfInBounds (o + 1) y) T ∧ Keeps w (w.setCells b o [x,y]) [b] := by
 have e : w.setCells b o [x,y] = (w.setCell ⟨b,o,none⟩ x).setCell ⟨b,o + 1,none⟩ y := rfl
 rw [e]
 exact ⟨(h.set o x).set (o + 1) y,((Keeps.refl w [b]).setCell (.inr (by simp)) _).setCell (.inr (by simp)) _⟩
theorem there_two {w : World} {b o : Nat} {cs : Array Value} {T : TypeId} (h : Blk w b cs T) (ho : o + 1 < cs.size) : w.there b o 2 := fun j hj => by
 have hj2 : o + j < cs.size := by omega
 refine ⟨?_,h.frozen (o + j)⟩
 rw [show (⟨b,o + j,none⟩ : Addr) = ⟨b,o + j,none⟩ from rfl,h.cell (o + j),Array.getElem?_eq_getElem hj2]
 rfl
theorem step_store_two {P : Program} {ops : Array Oper} {o : Oper} {a : Act} {w : World} {K : Act → World → Prop} {Q : Exit → Act → World → Prop} {E : Prop} (hgd : o.guard = none) (ty : TypeId) (x y : Operand) (ho : o.op = .store ty x y)
  (g off : Nat) (u v : Value) (hx : a.eval x = .pointer (some ⟨g,off,none⟩)) (hy : a.eval y = .agg #[u,v]) (t : TypeId) (old : Array Value) (hb : Blk w g old t) (hoff : off + 1 < old.size) (hi : (P.info? ty).map (·.size) = some 2)
  (h1 : u.oneCell' = true ∧ v.oneCell' = true) (h : ∀ W,Blk W g ((old.setIfInBounds off u).setIfInBounds (off + 1) v) t → Keeps w W [g] → K (a.put o.dst undef) W) :
  if Region.wanted o (yielded ops a.tmps) = true then Oper.wp P o a w K Q else E := by
 have hw : Region.wanted o (yielded ops a.tmps) = true := by simp [Region.wanted,hgd]
 rw [if_pos hw]
 obtain ⟨q1,q2⟩ := setCells_two (x := u) (y := v) (o := off) hb
 exact wp_store_mid ty x y ho g off #[u,v] hx hy (there_two hb hoff) (by simpa using hi) (by simp [h1.1,h1.2]) (h _ q1 q2)

structure DV where
 id : Int
 t : Value
 n1 : Value
 n2 : Value
 n3 : Value
 x : Value
 T : List Int
 L1 : List Int
 L2 : List Int
 L3 : List Int
 X : List Int
 g1 : Int
 g2 : Int
 g3 : Int
 a : Int
 b : Int
 c : Int
structure DSt (W : World) (p : Nat) (v : Value) (B : List Int) (k bc bd bx N : Nat) (d : DV) : Prop where
 cur : Cur W p v B k
 kc : Blk W bc #[.pointer (some ⟨p,0,none⟩)] 71
 kd : Blk W bd (dictC d.id d.t d.g1 d.n1 d.g2 d.n2 d.g3 d.n3 d.a d.b d.c d.x) 32
 kx : Blk W bx #[.pointer (some ⟨bd,1,none⟩)] 105
 rt : RdI .i64 W d.t d.T
 r1 : RdI .i64 W d.n1 d.L1
 r2 : RdI .i64 W d.n2 d.L2
 r3 : RdI .i64 W d.n3 d.L3
 rx : RdI .u8 W d.x d.X
 ft : Fresh N d.t
 f1 : Fresh N d.n1
 f2 : Fresh N d.n2
 f3 : Fresh N d.n3
 fx : Fresh N d.x
 pN : p < N ∧ bc < N ∧ bd < N ∧ bx < N ∧ N ≤ W.heap.size
 ne : p ≠ bd ∧ bc ≠ bd ∧ bx ≠ bd ∧ bc ≠ p ∧ bx ≠ p
 vd : ∀ ad n c,v = .slice (some ad) n c → 0 < n → ad.block ≠ bd
section
variable {W W' : World} {p k k' bc bd bx N : Nat} {v : Value} {B : List Int} {d : DV}
theorem DSt.keeps0 (h : DSt W p v B k bc bd bx N d) (kk : Keeps W W' []) : DSt W' p v B k bc bd bx N d :=
 ⟨h.cur.keeps kk,h.kc.keeps kk (by simp),h.kd.keeps kk (by simp),h.kx.keeps kk (by simp),h.rt.keeps kk,h.r1.keeps kk,h.r2.keeps kk,h.r3.keeps kk,h.rx.keeps kk,h.ft,h.f1,h.f2,h.f3,h.fx,⟨h.pN.1,h.pN.2.1,h.pN.2.2.1,h.pN.2.2.2.1,Nat.le_trans h.pN.2.2.2.2 kk.size⟩,h.ne,h.vd⟩
theorem DSt.read (h : DSt W p v B k bc bd bx N d) (kk : Keeps W W' [p]) (c : Cur W' p v B k') : DSt W' p v B k' bc bd bx N d := by
 obtain ⟨n1,n2,n3,n4,n5⟩ := h.ne
 obtain ⟨q1,q2,q3,q4,q5⟩ := h.pN
 exact ⟨c,h.kc.keeps kk (by simp;omega),h.kd.keeps kk (by simp;omega),h.kx.keeps kk (by simp;omega),h.rt.past h.ft kk q1,h.r1.past h.f1 kk q1,h.r2.past h.f2 kk q1,h.r3.past h.f3 kk q1,h.rx.past h.fx kk q1,h.ft,h.f1,h.f2,h.f3,h.fx,⟨q1,q2,q3,q4,Nat.le_trans q5 kk.size⟩,h.ne,h.vd⟩
theorem DSt.put {d' : DV} (h : DSt W p v B k bc bd bx N d) (kk : Keeps W W' [bd]) (hb : Blk W' bd (dictC d'.id d'.t d'.g1 d'.n1 d'.g2 d'.n2 d'.g3 d'.n3 d'.a d'.b d'.c d'.x) 32)
  (ht : RdI .i64 W d'.t d'.T ∧ Fresh N d'.t) (h1 : RdI .i64 W d'.n1 d'.L1 ∧ Fresh N d'.n1) (h2 : RdI .i64 W d'.n2 d'.L2 ∧ Fresh N d'.n2) (h3 : RdI .i64 W d'.n3 d'.L3 ∧ Fresh N d'.n3) (hx : RdI .u8 W d'.x d'.X ∧ Fresh N d'.x) : DSt W' p v B k bc bd bx N d' := by
 obtain ⟨n1,n2,n3,n4,n5⟩ := h.ne
 obtain ⟨q1,q2,q3,q4,q5⟩ := h.pN
 exact ⟨h.cur.keepsS kk (by simp;omega) (fun ad n c e h0 hm => h.vd ad n c e h0 (List.mem_singleton.1 hm)),h.kc.keeps kk (by simp;omega),hb,h.kx.keeps kk (by simp;omega),ht.1.past ht.2 kk q3,h1.1.past h1.2 kk q3,h2.1.past h2.2 kk q3,h3.1.past h3.2 kk q3,hx.1.past hx.2 kk q3,ht.2,h1.2,h2.2,h3.2,hx.2,⟨q1,q2,q3,q4,Nat.le_trans q5 kk.size⟩,h.ne,h.vd⟩
end
theorem kpd {W W1 W2 : World} {p bd : Nat} (h : Keeps W W1 [p]) (k : Keeps W1 W2 [bd]) : Keeps W W2 [p,bd] := (h.mono (by simp)).trans k (fun j hj _ => by simp at hj;simp [hj])

theorem f2_yes (p k bc bd bx N : Nat) (v : Value) (B : List Int) (d : DV) (w : World) (h : DSt w p v B k bc bd bx N d) (hE : bytesE B k 4 = 0) :
  Calls Tryz.prog 82 #[.pointer (some ⟨bc,0,none⟩),.pointer (some ⟨bd,0,none⟩)] w fun e w' => e = .returned (.tuple #[]) ∧ DSt w' p v B (bytesK B k 4) bc bd bx N { d with id := wordL (bytesX B k 4) } ∧ Keeps w w' [p,bd] := by
 have H := Lib.hid (word_any p k v B w h.cur)
 rw [hE] at H
 obtain ⟨d0,-⟩ := h.kc.one
 have HH := Lib.hid h
 clear h hE
 generalize wordL (bytesX B k 4) = X at *
 generalize bytesK B k 4 = K' at *
 go_enter Tryz.func82,Tryz.ntmps82
 go_wp2_with (first
  | (go_at_call 84;(refine H.out.mono ?_;rintro e w1 ⟨rfl,cur1,k1⟩;have h1 := Lib.hid (HH.out.read k1 cur1);have c0 : w1.cell? ⟨bd,0,none⟩ = some (.int .u32 d.id) := h1.out.kd.cell 0;have f0 := h1.out.kd.frozen 0;have K1 := Lib.hid k1;clear cur1 k1))
  | (go_at_call 83;(refine (got32_yes _ _).mono ?_;rintro e w2 ⟨rfl,rfl⟩)))
 go_end0
 have kk : Keeps w2 (w2.setCell ⟨bd,0,none⟩ (.int .u32 X)) [bd] := (Keeps.refl _ [bd]).setCell (.inr (by simp)) _
 have hb := h1.out.kd.set 0 (.int .u32 X)
 exact ⟨rfl,h1.out.put kk (by simpa using hb) ⟨h1.out.rt,h1.out.ft⟩ ⟨h1.out.r1,h1.out.f1⟩ ⟨h1.out.r2,h1.out.f2⟩ ⟨h1.out.r3,h1.out.f3⟩ ⟨h1.out.rx,h1.out.fx⟩,kpd K1.out kk⟩

theorem f3_yes (p k bc bd bx N : Nat) (v : Value) (B : List Int) (d : DV) (w : World) (h : DSt w p v B k bc bd bx N d) (hid : d.id ≠ 0) :
  Calls Tryz.prog 85 #[.pointer (some ⟨bd,0,none⟩)] w fun e w' => e = .returned (.tuple #[]) ∧ w' = w := by
 have c0 : w.cell? ⟨bd,0,none⟩ = some (.int .u32 d.id) := h.kd.cell 0
 have hb : (d.id != 0) = true := by simpa using hid
 clear h hid
 generalize d.id = I at *
 go_enter Tryz.func85,Tryz.ntmps85
 go_wp2_with (go_at_call 62;(refine (dmust_yes (by simp [hb]) 9 _).mono ?_;rintro e w1 ⟨rfl,rfl⟩))
 go_end0
 exact ⟨rfl,rfl⟩

theorem gotl_yes (A : Option Addr) (n c : Nat) (w : World) : Calls Tryz.prog 87 #[.slice A n c,.int .i64 0] w fun e w' => e = .returned (.slice A n c) ∧ w' = w := by
 go_enter Tryz.func87,Tryz.ntmps87
 go_wp2_with (go_at_call 62;refine (dmust_yes (by simp) 0 _).mono ?_;rintro e w1 ⟨rfl,rfl⟩)
 go_ret
 exact ⟨rfl,rfl⟩
theorem gotl_no (A : Option Addr) (n c : Nat) (E : Int) (hn : E ≠ 0) (w : World) : Calls Tryz.prog 87 #[.slice A n c,.int .i64 E] w fun e w' => e = .panicked [raisedBy E false] ∧ w' = w := by
 have hn' : (E == 0) = false := by simpa using hn
 go_enter Tryz.func87,Tryz.ntmps87
 go_wp2_with (go_at_call 62;refine (dmust_no (by simp [hn']) E _).mono ?_;rintro e w1 ⟨rfl,rfl⟩)
 exact ⟨rfl,rfl,rfl⟩

theorem gotb_yes (A : Option Addr) (n c : Nat) (w : World) : Calls Tryz.prog 64 #[.slice A n c,.int .i64 0] w fun e w' => e = .returned (.slice A n c) ∧ w' = w := by
 go_enter Tryz.func64,Tryz.ntmps64
 go_wp2_with (go_at_call 62;refine (dmust_yes (by simp) 0 _).mono ?_;rintro e w1 ⟨rfl,rfl⟩)
 go_ret
 exact ⟨rfl,rfl⟩
theorem gotb_no (A : Option Addr) (n c : Nat) (E : Int) (hn : E ≠ 0) (w : World) : Calls Tryz.prog 64 #[.slice A n c,.int .i64 E] w fun e w' => e = .panicked [raisedBy E false] ∧ w' = w := by
 have hn' : (E == 0) = false := by simpa using hn
 go_enter Tryz.func64,Tryz.ntmps64
 go_wp2_with (go_at_call 62;refine (dmust_no (by simp [hn']) E _).mono ?_;rintro e w1 ⟨rfl,rfl⟩)
 exact ⟨rfl,rfl,rfl⟩

theorem gotv_yes (x : Int) (w : World) : Calls Tryz.prog 90 #[.int .u64 x,.int .i64 0] w fun e w' => e = .returned (.int .u64 x) ∧ w' = w := by
 go_enter Tryz.func90,Tryz.ntmps90
 go_wp2_with (go_at_call 62;refine (dmust_yes (by simp) 0 _).mono ?_;rintro e w1 ⟨rfl,rfl⟩)
 go_ret
 exact ⟨rfl,rfl⟩
theorem gotv_no (x : Int) (E : Int) (hn : E ≠ 0) (w : World) : Calls Tryz.prog 90 #[.int .u64 x,.int .i64 E] w fun e w' => e = .panicked [raisedBy E false] ∧ w' = w := by
 have hn' : (E == 0) = false := by simpa using hn
 go_enter Tryz.func90,Tryz.ntmps90
 go_wp2_with (go_at_call 62;refine (dmust_no (by simp [hn']) E _).mono ?_;rintro e w1 ⟨rfl,rfl⟩)
 exact ⟨rfl,rfl,rfl⟩

theorem goti_yes (x : Int) (w : World) : Calls Tryz.prog 93 #[.int .i64 x,.int .i64 0] w fun e w' => e = .returned (.int .i64 x) ∧ w' = w := by
 go_enter Tryz.func93,Tryz.ntmps93
 go_wp2_with (go_at_call 62;refine (dmust_yes (by simp) 0 _).mono ?_;rintro e w1 ⟨rfl,rfl⟩)
 go_ret
 exact ⟨rfl,rfl⟩
theorem goti_no (x : Int) (E : Int) (hn : E ≠ 0) (w : World) : Calls Tryz.prog 93 #[.int .i64 x,.int .i64 E] w fun e w' => e = .panicked [raisedBy E false] ∧ w' = w := by
 have hn' : (E == 0) = false := by simpa using hn
 go_enter Tryz.func93,Tryz.ntmps93
 go_wp2_with (go_at_call 62;refine (dmust_no (by simp [hn']) E _).mono ?_;rintro e w1 ⟨rfl,rfl⟩)
 exact ⟨rfl,rfl,rfl⟩

theorem gott_yes (g : Int) (A : Option Addr) (n c : Nat) (w : World) : Calls Tryz.prog 80 #[.agg #[.int .i64 g,.slice A n c],.int .i64 0] w fun e w' => e = .returned (.agg #[.int .i64 g,.slice A n c]) ∧ Keeps w w' [] := by
 have q2 := (Blk.new w #[.int .i64 g,.slice A n c] 27).alloc (.cells #[.int .i64 0,.slice none 0 0] 27)
 have q4 := Blk.new (w.alloc (.cells #[.int .i64 g,.slice A n c] 27)) #[.int .i64 0,.slice none 0 0] 27
 rw [World.size_alloc] at q4
 go_enter Tryz.func80,Tryz.ntmps80
 go_wp2_with (go_at_call 62;refine (dmust_yes (by simp) 0 _).mono ?_;rintro e w1 ⟨rfl,rfl⟩)
 have q6 := Blk.new (w.alloc (.cells #[.int .i64 g,.slice A n c] 27)) #[.int .i64 g,.slice A n c] 27
 rw [World.size_alloc] at q6
 exact bodyPost_ret (v := .agg #[.int .i64 g,.slice A n c]) (res_cell Tryz.results80 rfl (load_tbl q6 rfl)) rfl ⟨rfl,((Keeps.refl _ []).alloc _).alloc _⟩
theorem gott_no (g : Int) (A : Option Addr) (n c : Nat) (E : Int) (hn : E ≠ 0) (w : World) : Calls Tryz.prog 80 #[.agg #[.int .i64 g,.slice A n c],.int .i64 E] w fun e w' => e = .panicked [raisedBy E false] ∧ Keeps w w' [] := by
 have hn' : (E == 0) = false := by simpa using hn
 go_enter Tryz.func80,Tryz.ntmps80
 go_wp2_with (go_at_call 62;refine (dmust_no (by simp [hn']) E _).mono ?_;rintro e w1 ⟨rfl,rfl⟩)
 exact ⟨rfl,rfl,((Keeps.refl _ []).alloc _).alloc _⟩

theorem getW_err {w : World} {p k : Nat} {v : Value} {B : List Int} {n : Int} (hc : Cur w p v B k) (h : getW B k = .error n) : n ≠ 0 := getW_err0 h

set_option maxHeartbeats 2000000 in
theorem f4_no (p k bc bd bx N : Nat) (v : Value) (B : List Int) (d : DV) (w : World) (h : DSt w p v B k bc bd bx N d) {n : Int} (hg : getW B k = .error n) :
  Calls Tryz.prog 86 #[.pointer (some ⟨bc,0,none⟩),.pointer (some ⟨bx,0,none⟩)] w fun e w' => n ≠ 0 ∧ e = .panicked [raisedBy n false] ∧ Keeps w w' [p] := by
 have HD := Lib.hid (decode_any p k v B w.drew (h.cur.keeps (Keeps.refl w []).drew))
 rw [hg] at HD
 unfold DecAll DecEnd at HD
 simp only at HD
 have hne := getW_err h.cur hg
 have HH := Lib.hid h
 have hd0 := h.keeps0 (Keeps.refl w []).drew
 clear h hg
 go_enter Tryz.func86,Tryz.ntmps86
 refine wp_region_held_drew (S := (fun w' => Blk w' bc #[.pointer (some ⟨p,0,none⟩)] 71 ∧ Blk w' bx #[.pointer (some ⟨bd,1,none⟩)] 105)) (by kernel_rfl) ⟨hd0.kc,hd0.kx⟩ (fun hHeld => ?_)
 refine takeM 0 rfl (by intro w9 hSw;obtain ⟨q0,q1⟩ := hSw;obtain ⟨r0,-⟩ := q0.one;obtain ⟨r1,-⟩ := q1.one;clear q0 q1;go_simp;(try with_reducible rfl)) ?_
 try simp only [Act.put,stA,stZ,stS]
 refine takeM 1 rfl (by intro w9 hSw;obtain ⟨q0,q1⟩ := hSw;obtain ⟨r0,-⟩ := q0.one;obtain ⟨r1,-⟩ := q1.one;clear q0 q1;go_simp;(try with_reducible rfl)) ?_
 try simp only [Act.put,stA,stZ,stS]
 refine callL (i := 2) rfl (by kernel_rfl) (fun Kont hK => ?_)
 go_simp
 refine HD.out.mono ?_
 rintro e w1 ⟨K,r,rfl,rd1,fr1,cur1,k1⟩
 obtain ⟨ra,rn,rc,rfl,-,-⟩ := rd1.form
 have k1' : Keeps w w1 [p] := ((Keeps.refl w [p]).drew).trans k1 (fun j hj _ => hj)
 have h1 := Lib.hid (HH.out.read k1' cur1)
 have R1 := Lib.hid rd1
 have F1 := Lib.hid (fr1.mono (show N ≤ w.drew.heap.size from HH.out.pN.2.2.2.2))
 have K1 := Lib.hid k1'
 clear k1 cur1 rd1 fr1 k1'
 go_wp2_with fail
 refine hK.out _ _ ?_ (fun hHeld => ?_)
 ·exact ⟨h1.out.kc,h1.out.kx⟩
 clear hK Kont
 refine takeM 3 rfl (by intro w9 hSw;clear hSw;go_simp;(try with_reducible rfl)) ?_
 try simp only [Act.put,stA,stZ,stS]
 refine takeM 4 rfl (by intro w9 hSw;clear hSw;go_simp;(try with_reducible rfl)) ?_
 try simp only [Act.put,stA,stZ,stS]
 refine callL (i := 5) rfl (by kernel_rfl) (fun Kont hK => ?_)
 go_simp
 refine (gotl_no _ _ _ n hne _).mono ?_
 rintro e w2 ⟨rfl,rfl⟩
 first
  | exact ⟨rfl,hne,rfl,K1.out⟩
  | exact ⟨rfl,rfl,K1.out⟩

set_option maxHeartbeats 2000000 in
theorem f4_yes (p k bc bd bx N : Nat) (v : Value) (B : List Int) (d : DV) (w : World) (h : DSt w p v B k bc bd bx N d) {T : List Int} {K : Nat} (hg : getW B k = .ok (T,K)) :
  Calls Tryz.prog 86 #[.pointer (some ⟨bc,0,none⟩),.pointer (some ⟨bx,0,none⟩)] w fun e w' => e = .returned (.tuple #[]) ∧ (∃ r,DSt w' p v B K bc bd bx N { d with t := r,T := T }) ∧ Keeps w w' [p,bd] := by
 have HD := Lib.hid (decode_any p k v B w.drew (h.cur.keeps (Keeps.refl w []).drew))
 rw [hg] at HD
 unfold DecAll DecEnd at HD
 simp only at HD
 have HH := Lib.hid h
 have hd0 := h.keeps0 (Keeps.refl w []).drew
 clear h hg
 go_enter Tryz.func86,Tryz.ntmps86
 refine wp_region_held_drew (S := (fun w' => Blk w' bc #[.pointer (some ⟨p,0,none⟩)] 71 ∧ Blk w' bx #[.pointer (some ⟨bd,1,none⟩)] 105)) (by kernel_rfl) ⟨hd0.kc,hd0.kx⟩ (fun hHeld => ?_)
 refine takeM 0 rfl (by intro w9 hSw;obtain ⟨q0,q1⟩ := hSw;obtain ⟨r0,-⟩ := q0.one;obtain ⟨r1,-⟩ := q1.one;clear q0 q1;go_simp;(try with_reducible rfl)) ?_
 try simp only [Act.put,stA,stZ,stS]
 refine takeM 1 rfl (by intro w9 hSw;obtain ⟨q0,q1⟩ := hSw;obtain ⟨r0,-⟩ := q0.one;obtain ⟨r1,-⟩ := q1.one;clear q0 q1;go_simp;(try with_reducible rfl)) ?_
 try simp only [Act.put,stA,stZ,stS]
 refine callL (i := 2) rfl (by kernel_rfl) (fun Kont hK => ?_)
 go_simp
 refine HD.out.mono ?_
 rintro e w1 ⟨r,rfl,rd1,fr1,cur1,k1⟩
 obtain ⟨ra,rn,rc,rfl,-,-⟩ := rd1.form
 have k1' : Keeps w w1 [p] := ((Keeps.refl w [p]).drew).trans k1 (fun j hj _ => hj)
 have h1 := Lib.hid (HH.out.read k1' cur1)
 have R1 := Lib.hid rd1
 have F1 := Lib.hid (fr1.mono (show N ≤ w.drew.heap.size from HH.out.pN.2.2.2.2))
 have K1 := Lib.hid k1'
 clear k1 cur1 rd1 fr1 k1'
 go_wp2_with fail
 refine hK.out _ _ ?_ (fun hHeld => ?_)
 ·exact ⟨h1.out.kc,h1.out.kx⟩
 clear hK Kont
 refine takeM 3 rfl (by intro w9 hSw;clear hSw;go_simp;(try with_reducible rfl)) ?_
 try simp only [Act.put,stA,stZ,stS]
 refine takeM 4 rfl (by intro w9 hSw;clear hSw;go_simp;(try with_reducible rfl)) ?_
 try simp only [Act.put,stA,stZ,stS]
 refine callL (i := 5) rfl (by kernel_rfl) (fun Kont hK => ?_)
 go_simp
 refine (gotl_yes _ _ _ _).mono ?_
 rintro e w2 ⟨rfl,rfl⟩
 go_wp2_with fail
 refine hK.out _ _ ?_ (fun hHeld => ?_)
 ·exact hHeld
 clear hK Kont
 refine takeM 6 rfl (by intro w9 hSw;obtain ⟨q0,q1⟩ := hSw;obtain ⟨r0,-⟩ := q0.one;obtain ⟨r1,-⟩ := q1.one;clear q0 q1;go_simp;(try with_reducible rfl)) ?_
 try simp only [Act.put,stA,stZ,stS]
 refine takeM 7 rfl (by intro w9 hSw;obtain ⟨q0,q1⟩ := hSw;obtain ⟨r0,-⟩ := q0.one;obtain ⟨r1,-⟩ := q1.one;clear q0 q1;go_simp;(try with_reducible rfl)) ?_
 try simp only [Act.put,stA,stZ,stS]
 have c1 : w2.cell? ⟨bd,1,none⟩ = some d.t := h1.out.kd.cell 1
 have f1 := h1.out.kd.frozen 1
 refine callL (i := 8) rfl (by kernel_rfl) (fun Kont hK => ?_)
 go_simp
 have kk : Keeps w2 (w2.setCell ⟨bd,1,none⟩ (.slice ra rn rc)) [bd] := (Keeps.refl _ [bd]).setCell (.inr (by simp)) _
 have hb := h1.out.kd.set 1 (.slice ra rn rc)
 have hp := h1.out.put (d' := { d with t := .slice ra rn rc,T := T }) kk (by simpa using hb) ⟨R1.out,F1.out⟩ ⟨h1.out.r1,h1.out.f1⟩ ⟨h1.out.r2,h1.out.f2⟩ ⟨h1.out.r3,h1.out.f3⟩ ⟨h1.out.rx,h1.out.fx⟩
 refine hK.out _ _ ?_ (fun hHeld => ?_)
 ·exact ⟨hp.kc,hp.kx⟩
 clear hK Kont
 refine wpAnyH_done (by kernel_rfl) ?_ _
 go_wp2_with fail
 go_end0
 exact ⟨rfl,⟨_,hp⟩,kpd K1.out kk⟩

set_option maxHeartbeats 2000000 in
theorem ft1_no (p k bc bd bx N q0 q1 q2 sy : Nat) (lg : Int) (v : Value) (B : List Int) (d : DV) (w : World) (h : DSt w p v B k bc bd bx N d) (hq0 : Blk w q0 #[.pointer (some ⟨bd,2,none⟩)] 77) (hq1 : Blk w q1 #[.int .i64 (sy : Int)] 3) (hq2 : Blk w q2 #[.int .i64 lg] 3) (hqp : q0 ≠ p ∧ q1 ≠ p ∧ q2 ≠ p) (hsy : sy ≤ 256) {n : Int} (hg : descP ((B.drop k).take 1024) sy lg = .error n) :
  Calls Tryz.prog 79 #[.pointer (some ⟨bc,0,none⟩),.pointer (some ⟨q1,0,none⟩),.pointer (some ⟨q2,0,none⟩),.pointer (some ⟨q0,0,none⟩)] w fun e w' => n ≠ 0 ∧ e = .panicked [raisedBy n false] ∧ Keeps w w' [p] := by
 have HD := Lib.hid (ddecode_any p k sy lg v B w.drew (h.cur.keeps (Keeps.refl w []).drew) hsy)
 rw [hg] at HD
 unfold DescEnd at HD
 simp only at HD
 have HH := Lib.hid h
 have hd0 := h.keeps0 (Keeps.refl w []).drew
 have HQ := Lib.hid hqp
 clear h hg
 go_enter Tryz.func79,Tryz.ntmps79
 refine wp_region_held_drew (S := (fun w' => Blk w' bc #[.pointer (some ⟨p,0,none⟩)] 71 ∧ Blk w' q0 #[.pointer (some ⟨bd,2,none⟩)] 77 ∧ Blk w' q1 #[.int .i64 (sy : Int)] 3 ∧ Blk w' q2 #[.int .i64 lg] 3)) (by kernel_rfl) ⟨hd0.kc,hq0.drew,hq1.drew,hq2.drew⟩ (fun hHeld => ?_)
 refine takeM 0 rfl (by intro w9 hSw;obtain ⟨q0,q1,q2,q3⟩ := hSw;obtain ⟨r0,-⟩ := q0.one;obtain ⟨r1,-⟩ := q1.one;obtain ⟨r2,-⟩ := q2.one;obtain ⟨r3,-⟩ := q3.one;clear q0 q1 q2 q3;go_simp;(try with_reducible rfl)) ?_
 try simp only [Act.put,stA,stZ,stS]
 refine takeM 1 rfl (by intro w9 hSw;obtain ⟨q0,q1,q2,q3⟩ := hSw;obtain ⟨r0,-⟩ := q0.one;obtain ⟨r1,-⟩ := q1.one;obtain ⟨r2,-⟩ := q2.one;obtain ⟨r3,-⟩ := q3.one;clear q0 q1 q2 q3;go_simp;(try with_reducible rfl)) ?_
 try simp only [Act.put,stA,stZ,stS]
 refine takeM 2 rfl (by intro w9 hSw;obtain ⟨q0,q1,q2,q3⟩ := hSw;obtain ⟨r0,-⟩ := q0.one;obtain ⟨r1,-⟩ := q1.one;obtain ⟨r2,-⟩ := q2.one;obtain ⟨r3,-⟩ := q3.one;clear q0 q1 q2 q3;go_simp;(try with_reducible rfl)) ?_
 try simp only [Act.put,stA,stZ,stS]
 refine takeM 3 rfl (by intro w9 hSw;obtain ⟨q0,q1,q2,q3⟩ := hSw;obtain ⟨r0,-⟩ := q0.one;obtain ⟨r1,-⟩ := q1.one;obtain ⟨r2,-⟩ := q2.one;obtain ⟨r3,-⟩ := q3.one;clear q0 q1 q2 q3;go_simp;(try with_reducible rfl)) ?_
 try simp only [Act.put,stA,stZ,stS]
 refine callL (i := 4) rfl (by kernel_rfl) (fun Kont hK => ?_)
 go_simp
 refine HD.out.mono ?_
 rintro e w1 ⟨k1,hne,rfl,cur1⟩
 have k1' : Keeps w w1 [p] := ((Keeps.refl w [p]).drew).trans k1 (fun j hj _ => hj)
 have h1 := Lib.hid (HH.out.read k1' cur1)
 have K1 := Lib.hid k1'
 have hq0' := hHeld.2.1.keeps k1 (by simpa using HQ.out.1)
 have hq1' := hHeld.2.2.1.keeps k1 (by simpa using HQ.out.2.1)
 have hq2' := hHeld.2.2.2.keeps k1 (by simpa using HQ.out.2.2)
 clear k1 cur1 k1'
 go_wp2_with fail
 refine hK.out _ _ ?_ (fun hHeld => ?_)
 ·exact ⟨h1.out.kc,hq0',hq1',hq2'⟩
 clear hK Kont
 refine takeM 5 rfl (by intro w9 hSw;clear hSw;go_simp;(try with_reducible rfl)) ?_
 try simp only [Act.put,stA,stZ,stS]
 refine takeM 6 rfl (by intro w9 hSw;clear hSw;go_simp;(try with_reducible rfl)) ?_
 try simp only [Act.put,stA,stZ,stS]
 refine callL (i := 7) rfl (by kernel_rfl) (fun Kont hK => ?_)
 go_simp
 refine (gott_no _ _ _ _ n hne _).mono ?_
 rintro e w2 ⟨rfl,k2⟩
 first
  | exact ⟨rfl,hne,rfl,K1.out.trans k2 (fun j hj _ => by cases hj)⟩
  | exact ⟨rfl,rfl,K1.out.trans k2 (fun j hj _ => by cases hj)⟩

set_option maxHeartbeats 2000000 in
theorem ft1_yes (p k bc bd bx N q0 q1 q2 sy : Nat) (lg : Int) (v : Value) (B : List Int) (d : DV) (w : World) (h : DSt w p v B k bc bd bx N d) (hq0 : Blk w q0 #[.pointer (some ⟨bd,2,none⟩)] 77) (hq1 : Blk w q1 #[.int .i64 (sy : Int)] 3) (hq2 : Blk w q2 #[.int .i64 lg] 3) (hqp : q0 ≠ p ∧ q1 ≠ p ∧ q2 ≠ p) (hqb : q0 ≠ bd ∧ q1 ≠ bd ∧ q2 ≠ bd) (hsy : sy ≤ 256) {G m : Nat} {L : List Int} (hg : descP ((B.drop k).take 1024) sy lg = .ok (G,L,m)) :
  Calls Tryz.prog 79 #[.pointer (some ⟨bc,0,none⟩),.pointer (some ⟨q1,0,none⟩),.pointer (some ⟨q2,0,none⟩),.pointer (some ⟨q0,0,none⟩)] w fun e w' => e = .returned (.tuple #[]) ∧ (∃ r,DSt w' p v B (k + m) bc bd bx N { d with g1 := (G : Int),n1 := r,L1 := L }) ∧ Keeps w w' [p,bd] := by
 have HD := Lib.hid (ddecode_any p k sy lg v B w.drew (h.cur.keeps (Keeps.refl w []).drew) hsy)
 rw [hg] at HD
 unfold DescEnd at HD
 simp only at HD
 have HH := Lib.hid h
 have hd0 := h.keeps0 (Keeps.refl w []).drew
 have HQ := Lib.hid hqp
 have HB := Lib.hid hqb
 clear h hg
 go_enter Tryz.func79,Tryz.ntmps79
 refine wp_region_held_drew (S := (fun w' => Blk w' bc #[.pointer (some ⟨p,0,none⟩)] 71 ∧ Blk w' q0 #[.pointer (some ⟨bd,2,none⟩)] 77 ∧ Blk w' q1 #[.int .i64 (sy : Int)] 3 ∧ Blk w' q2 #[.int .i64 lg] 3)) (by kernel_rfl) ⟨hd0.kc,hq0.drew,hq1.drew,hq2.drew⟩ (fun hHeld => ?_)
 refine takeM 0 rfl (by intro w9 hSw;obtain ⟨q0,q1,q2,q3⟩ := hSw;obtain ⟨r0,-⟩ := q0.one;obtain ⟨r1,-⟩ := q1.one;obtain ⟨r2,-⟩ := q2.one;obtain ⟨r3,-⟩ := q3.one;clear q0 q1 q2 q3;go_simp;(try with_reducible rfl)) ?_
 try simp only [Act.put,stA,stZ,stS]
 refine takeM 1 rfl (by intro w9 hSw;obtain ⟨q0,q1,q2,q3⟩ := hSw;obtain ⟨r0,-⟩ := q0.one;obtain ⟨r1,-⟩ := q1.one;obtain ⟨r2,-⟩ := q2.one;obtain ⟨r3,-⟩ := q3.one;clear q0 q1 q2 q3;go_simp;(try with_reducible rfl)) ?_
 try simp only [Act.put,stA,stZ,stS]
 refine takeM 2 rfl (by intro w9 hSw;obtain ⟨q0,q1,q2,q3⟩ := hSw;obtain ⟨r0,-⟩ := q0.one;obtain ⟨r1,-⟩ := q1.one;obtain ⟨r2,-⟩ := q2.one;obtain ⟨r3,-⟩ := q3.one;clear q0 q1 q2 q3;go_simp;(try with_reducible rfl)) ?_
 try simp only [Act.put,stA,stZ,stS]
 refine takeM 3 rfl (by intro w9 hSw;obtain ⟨q0,q1,q2,q3⟩ := hSw;obtain ⟨r0,-⟩ := q0.one;obtain ⟨r1,-⟩ := q1.one;obtain ⟨r2,-⟩ := q2.one;obtain ⟨r3,-⟩ := q3.one;clear q0 q1 q2 q3;go_simp;(try with_reducible rfl)) ?_
 try simp only [Act.put,stA,stZ,stS]
 refine callL (i := 4) rfl (by kernel_rfl) (fun Kont hK => ?_)
 go_simp
 refine HD.out.mono ?_
 rintro e w1 ⟨k1,a,c,rfl,own1,hnl,cur1⟩
 have k1' : Keeps w w1 [p] := ((Keeps.refl w [p]).drew).trans k1 (fun j hj _ => hj)
 have h1 := Lib.hid (HH.out.read k1' cur1)
 have K1 := Lib.hid k1'
 have hq0' := hHeld.2.1.keeps k1 (by simpa using HQ.out.1)
 have hq1' := hHeld.2.2.1.keeps k1 (by simpa using HQ.out.2.1)
 have hq2' := hHeld.2.2.2.keeps k1 (by simpa using HQ.out.2.2)
 have R1 := Lib.hid (own_reads own1)
 have F1 := Lib.hid ((own_freshI own1).mono (show N ≤ w.drew.heap.size from HH.out.pN.2.2.2.2))
 clear k1 cur1 k1' own1 hnl
 go_wp2_with fail
 refine hK.out _ _ ?_ (fun hHeld => ?_)
 ·exact ⟨h1.out.kc,hq0',hq1',hq2'⟩
 clear hK Kont
 refine takeM 5 rfl (by intro w9 hSw;clear hSw;go_simp;(try with_reducible rfl)) ?_
 try simp only [Act.put,stA,stZ,stS]
 refine takeM 6 rfl (by intro w9 hSw;clear hSw;go_simp;(try with_reducible rfl)) ?_
 try simp only [Act.put,stA,stZ,stS]
 refine callL (i := 7) rfl (by kernel_rfl) (fun Kont hK => ?_)
 go_simp
 refine (gott_yes _ _ _ _ _).mono ?_
 rintro e w2 ⟨rfl,k2⟩
 have h2 := h1.out.keeps0 k2
 have R2 := Lib.hid (R1.out.keeps k2)
 have K2 := Lib.hid (K1.out.trans k2 (fun j hj _ => by cases hj))
 have hq0'' := hq0'.keeps k2 (by simp)
 have hq1'' := hq1'.keeps k2 (by simp)
 have hq2'' := hq2'.keeps k2 (by simp)
 clear k2
 go_wp2_with fail
 refine hK.out _ _ ?_ (fun hHeld => ?_)
 ·exact ⟨h2.kc,hq0'',hq1'',hq2''⟩
 clear hK Kont
 refine takeM 8 rfl (by intro w9 hSw;obtain ⟨q0,q1,q2,q3⟩ := hSw;obtain ⟨r0,-⟩ := q0.one;obtain ⟨r1,-⟩ := q1.one;obtain ⟨r2,-⟩ := q2.one;obtain ⟨r3,-⟩ := q3.one;clear q0 q1 q2 q3;go_simp;(try with_reducible rfl)) ?_
 try simp only [Act.put,stA,stZ,stS]
 refine callL (i := 9) rfl (by kernel_rfl) (fun Kont hK => ?_)
 refine step_store_two rfl 27 _ _ rfl bd 2 (.int .i64 (G : Int)) (.slice a L.length c) rfl rfl _ _ h2.kd (by simp) tbl_size (by simp [Value.oneCell']) ?_
 intro W9 b9 k9
 have hp := h2.put (d' := { d with g1 := (G : Int),n1 := .slice a L.length c,L1 := L }) k9 (by simpa using b9) ⟨h2.rt,h2.ft⟩ ⟨R2.out,F1.out⟩ ⟨h2.r2,h2.f2⟩ ⟨h2.r3,h2.f3⟩ ⟨h2.rx,h2.fx⟩
 refine hK.out _ _ ?_ (fun hHeld => ?_)
 ·exact ⟨hp.kc,hq0''.keeps k9 (by simpa using HB.out.1),hq1''.keeps k9 (by simpa using HB.out.2.1),hq2''.keeps k9 (by simpa using HB.out.2.2)⟩
 clear hK Kont
 refine wpAnyH_done (by kernel_rfl) ?_ _
 go_wp2_with fail
 go_end0
 exact ⟨rfl,⟨_,hp⟩,kpd K2.out k9⟩

set_option maxHeartbeats 2000000 in
theorem ft2_no (p k bc bd bx N q0 q1 q2 sy : Nat) (lg : Int) (v : Value) (B : List Int) (d : DV) (w : World) (h : DSt w p v B k bc bd bx N d) (hq0 : Blk w q0 #[.pointer (some ⟨bd,4,none⟩)] 77) (hq1 : Blk w q1 #[.int .i64 (sy : Int)] 3) (hq2 : Blk w q2 #[.int .i64 lg] 3) (hqp : q0 ≠ p ∧ q1 ≠ p ∧ q2 ≠ p) (hsy : sy ≤ 256) {n : Int} (hg : descP ((B.drop k).take 1024) sy lg = .error n) :
  Calls Tryz.prog 79 #[.pointer (some ⟨bc,0,none⟩),.pointer (some ⟨q1,0,none⟩),.pointer (some ⟨q2,0,none⟩),.pointer (some ⟨q0,0,none⟩)] w fun e w' => n ≠ 0 ∧ e = .panicked [raisedBy n false] ∧ Keeps w w' [p] := by
 have HD := Lib.hid (ddecode_any p k sy lg v B w.drew (h.cur.keeps (Keeps.refl w []).drew) hsy)
 rw [hg] at HD
 unfold DescEnd at HD
 simp only at HD
 have HH := Lib.hid h
 have hd0 := h.keeps0 (Keeps.refl w []).drew
 have HQ := Lib.hid hqp
 clear h hg
 go_enter Tryz.func79,Tryz.ntmps79
 refine wp_region_held_drew (S := (fun w' => Blk w' bc #[.pointer (some ⟨p,0,none⟩)] 71 ∧ Blk w' q0 #[.pointer (some ⟨bd,4,none⟩)] 77 ∧ Blk w' q1 #[.int .i64 (sy : Int)] 3 ∧ Blk w' q2 #[.int .i64 lg] 3)) (by kernel_rfl) ⟨hd0.kc,hq0.drew,hq1.drew,hq2.drew⟩ (fun hHeld => ?_)
 refine takeM 0 rfl (by intro w9 hSw;obtain ⟨q0,q1,q2,q3⟩ := hSw;obtain ⟨r0,-⟩ := q0.one;obtain ⟨r1,-⟩ := q1.one;obtain ⟨r2,-⟩ := q2.one;obtain ⟨r3,-⟩ := q3.one;clear q0 q1 q2 q3;go_simp;(try with_reducible rfl)) ?_
 try simp only [Act.put,stA,stZ,stS]
 refine takeM 1 rfl (by intro w9 hSw;obtain ⟨q0,q1,q2,q3⟩ := hSw;obtain ⟨r0,-⟩ := q0.one;obtain ⟨r1,-⟩ := q1.one;obtain ⟨r2,-⟩ := q2.one;obtain ⟨r3,-⟩ := q3.one;clear q0 q1 q2 q3;go_simp;(try with_reducible rfl)) ?_
 try simp only [Act.put,stA,stZ,stS]
 refine takeM 2 rfl (by intro w9 hSw;obtain ⟨q0,q1,q2,q3⟩ := hSw;obtain ⟨r0,-⟩ := q0.one;obtain ⟨r1,-⟩ := q1.one;obtain ⟨r2,-⟩ := q2.one;obtain ⟨r3,-⟩ := q3.one;clear q0 q1 q2 q3;go_simp;(try with_reducible rfl)) ?_
 try simp only [Act.put,stA,stZ,stS]
 refine takeM 3 rfl (by intro w9 hSw;obtain ⟨q0,q1,q2,q3⟩ := hSw;obtain ⟨r0,-⟩ := q0.one;obtain ⟨r1,-⟩ := q1.one;obtain ⟨r2,-⟩ := q2.one;obtain ⟨r3,-⟩ := q3.one;clear q0 q1 q2 q3;go_simp;(try with_reducible rfl)) ?_
 try simp only [Act.put,stA,stZ,stS]
 refine callL (i := 4) rfl (by kernel_rfl) (fun Kont hK => ?_)
 go_simp
 refine HD.out.mono ?_
 rintro e w1 ⟨k1,hne,rfl,cur1⟩
 have k1' : Keeps w w1 [p] := ((Keeps.refl w [p]).drew).trans k1 (fun j hj _ => hj)
 have h1 := Lib.hid (HH.out.read k1' cur1)
 have K1 := Lib.hid k1'
 have hq0' := hHeld.2.1.keeps k1 (by simpa using HQ.out.1)
 have hq1' := hHeld.2.2.1.keeps k1 (by simpa using HQ.out.2.1)
 have hq2' := hHeld.2.2.2.keeps k1 (by simpa using HQ.out.2.2)
 clear k1 cur1 k1'
 go_wp2_with fail
 refine hK.out _ _ ?_ (fun hHeld => ?_)
 ·exact ⟨h1.out.kc,hq0',hq1',hq2'⟩
 clear hK Kont
 refine takeM 5 rfl (by intro w9 hSw;clear hSw;go_simp;(try with_reducible rfl)) ?_
 try simp only [Act.put,stA,stZ,stS]
 refine takeM 6 rfl (by intro w9 hSw;clear hSw;go_simp;(try with_reducible rfl)) ?_
 try simp only [Act.put,stA,stZ,stS]
 refine callL (i := 7) rfl (by kernel_rfl) (fun Kont hK => ?_)
 go_simp
 refine (gott_no _ _ _ _ n hne _).mono ?_
 rintro e w2 ⟨rfl,k2⟩
 first
  | exact ⟨rfl,hne,rfl,K1.out.trans k2 (fun j hj _ => by cases hj)⟩
  | exact ⟨rfl,rfl,K1.out.trans k2 (fun j hj _ => by cases hj)⟩

set_option maxHeartbeats 2000000 in
theorem ft2_yes (p k bc bd bx N q0 q1 q2 sy : Nat) (lg : Int) (v : Value) (B : List Int) (d : DV) (w : World) (h : DSt w p v B k bc bd bx N d) (hq0 : Blk w q0 #[.pointer (some ⟨bd,4,none⟩)] 77) (hq1 : Blk w q1 #[.int .i64 (sy : Int)] 3) (hq2 : Blk w q2 #[.int .i64 lg] 3) (hqp : q0 ≠ p ∧ q1 ≠ p ∧ q2 ≠ p) (hqb : q0 ≠ bd ∧ q1 ≠ bd ∧ q2 ≠ bd) (hsy : sy ≤ 256) {G m : Nat} {L : List Int} (hg : descP ((B.drop k).take 1024) sy lg = .ok (G,L,m)) :
  Calls Tryz.prog 79 #[.pointer (some ⟨bc,0,none⟩),.pointer (some ⟨q1,0,none⟩),.pointer (some ⟨q2,0,none⟩),.pointer (some ⟨q0,0,none⟩)] w fun e w' => e = .returned (.tuple #[]) ∧ (∃ r,DSt w' p v B (k + m) bc bd bx N { d with g2 := (G : Int),n2 := r,L2 := L }) ∧ Keeps w w' [p,bd] := by
 have HD := Lib.hid (ddecode_any p k sy lg v B w.drew (h.cur.keeps (Keeps.refl w []).drew) hsy)
 rw [hg] at HD
 unfold DescEnd at HD
 simp only at HD
 have HH := Lib.hid h
 have hd0 := h.keeps0 (Keeps.refl w []).drew
 have HQ := Lib.hid hqp
 have HB := Lib.hid hqb
 clear h hg
 go_enter Tryz.func79,Tryz.ntmps79
 refine wp_region_held_drew (S := (fun w' => Blk w' bc #[.pointer (some ⟨p,0,none⟩)] 71 ∧ Blk w' q0 #[.pointer (some ⟨bd,4,none⟩)] 77 ∧ Blk w' q1 #[.int .i64 (sy : Int)] 3 ∧ Blk w' q2 #[.int .i64 lg] 3)) (by kernel_rfl) ⟨hd0.kc,hq0.drew,hq1.drew,hq2.drew⟩ (fun hHeld => ?_)
 refine takeM 0 rfl (by intro w9 hSw;obtain ⟨q0,q1,q2,q3⟩ := hSw;obtain ⟨r0,-⟩ := q0.one;obtain ⟨r1,-⟩ := q1.one;obtain ⟨r2,-⟩ := q2.one;obtain ⟨r3,-⟩ := q3.one;clear q0 q1 q2 q3;go_simp;(try with_reducible rfl)) ?_
 try simp only [Act.put,stA,stZ,stS]
 refine takeM 1 rfl (by intro w9 hSw;obtain ⟨q0,q1,q2,q3⟩ := hSw;obtain ⟨r0,-⟩ := q0.one;obtain ⟨r1,-⟩ := q1.one;obtain ⟨r2,-⟩ := q2.one;obtain ⟨r3,-⟩ := q3.one;clear q0 q1 q2 q3;go_simp;(try with_reducible rfl)) ?_
 try simp only [Act.put,stA,stZ,stS]
 refine takeM 2 rfl (by intro w9 hSw;obtain ⟨q0,q1,q2,q3⟩ := hSw;obtain ⟨r0,-⟩ := q0.one;obtain ⟨r1,-⟩ := q1.one;obtain ⟨r2,-⟩ := q2.one;obtain ⟨r3,-⟩ := q3.one;clear q0 q1 q2 q3;go_simp;(try with_reducible rfl)) ?_
 try simp only [Act.put,stA,stZ,stS]
 refine takeM 3 rfl (by intro w9 hSw;obtain ⟨q0,q1,q2,q3⟩ := hSw;obtain ⟨r0,-⟩ := q0.one;obtain ⟨r1,-⟩ := q1.one;obtain ⟨r2,-⟩ := q2.one;obtain ⟨r3,-⟩ := q3.one;clear q0 q1 q2 q3;go_simp;(try with_reducible rfl)) ?_
 try simp only [Act.put,stA,stZ,stS]
 refine callL (i := 4) rfl (by kernel_rfl) (fun Kont hK => ?_)
 go_simp
 refine HD.out.mono ?_
 rintro e w1 ⟨k1,a,c,rfl,own1,hnl,cur1⟩
 have k1' : Keeps w w1 [p] := ((Keeps.refl w [p]).drew).trans k1 (fun j hj _ => hj)
 have h1 := Lib.hid (HH.out.read k1' cur1)
 have K1 := Lib.hid k1'
 have hq0' := hHeld.2.1.keeps k1 (by simpa using HQ.out.1)
 have hq1' := hHeld.2.2.1.keeps k1 (by simpa using HQ.out.2.1)
 have hq2' := hHeld.2.2.2.keeps k1 (by simpa using HQ.out.2.2)
 have R1 := Lib.hid (own_reads own1)
 have F1 := Lib.hid ((own_freshI own1).mono (show N ≤ w.drew.heap.size from HH.out.pN.2.2.2.2))
 clear k1 cur1 k1' own1 hnl
 go_wp2_with fail
 refine hK.out _ _ ?_ (fun hHeld => ?_)
 ·exact ⟨h1.out.kc,hq0',hq1',hq2'⟩
 clear hK Kont
 refine takeM 5 rfl (by intro w9 hSw;clear hSw;go_simp;(try with_reducible rfl)) ?_
 try simp only [Act.put,stA,stZ,stS]
 refine takeM 6 rfl (by intro w9 hSw;clear hSw;go_simp;(try with_reducible rfl)) ?_
 try simp only [Act.put,stA,stZ,stS]
 refine callL (i := 7) rfl (by kernel_rfl) (fun Kont hK => ?_)
 go_simp
 refine (gott_yes _ _ _ _ _).mono ?_
 rintro e w2 ⟨rfl,k2⟩
 have h2 := h1.out.keeps0 k2
 have R2 := Lib.hid (R1.out.keeps k2)
 have K2 := Lib.hid (K1.out.trans k2 (fun j hj _ => by cases hj))
 have hq0'' := hq0'.keeps k2 (by simp)
 have hq1'' := hq1'.keeps k2 (by simp)
 have hq2'' := hq2'.keeps k2 (by simp)
 clear k2
 go_wp2_with fail
 refine hK.out _ _ ?_ (fun hHeld => ?_)
 ·exact ⟨h2.kc,hq0'',hq1'',hq2''⟩
 clear hK Kont
 refine takeM 8 rfl (by intro w9 hSw;obtain ⟨q0,q1,q2,q3⟩ := hSw;obtain ⟨r0,-⟩ := q0.one;obtain ⟨r1,-⟩ := q1.one;obtain ⟨r2,-⟩ := q2.one;obtain ⟨r3,-⟩ := q3.one;clear q0 q1 q2 q3;go_simp;(try with_reducible rfl)) ?_
 try simp only [Act.put,stA,stZ,stS]
 refine callL (i := 9) rfl (by kernel_rfl) (fun Kont hK => ?_)
 refine step_store_two rfl 27 _ _ rfl bd 4 (.int .i64 (G : Int)) (.slice a L.length c) rfl rfl _ _ h2.kd (by simp) tbl_size (by simp [Value.oneCell']) ?_
 intro W9 b9 k9
 have hp := h2.put (d' := { d with g2 := (G : Int),n2 := .slice a L.length c,L2 := L }) k9 (by simpa using b9) ⟨h2.rt,h2.ft⟩ ⟨h2.r1,h2.f1⟩ ⟨R2.out,F1.out⟩ ⟨h2.r3,h2.f3⟩ ⟨h2.rx,h2.fx⟩
 refine hK.out _ _ ?_ (fun hHeld => ?_)
 ·exact ⟨hp.kc,hq0''.keeps k9 (by simpa using HB.out.1),hq1''.keeps k9 (by simpa using HB.out.2.1),hq2''.keeps k9 (by simpa using HB.out.2.2)⟩
 clear hK Kont
 refine wpAnyH_done (by kernel_rfl) ?_ _
 go_wp2_with fail
 go_end0
 exact ⟨rfl,⟨_,hp⟩,kpd K2.out k9⟩

set_option maxHeartbeats 2000000 in
theorem ft3_no (p k bc bd bx N q0 q1 q2 sy : Nat) (lg : Int) (v : Value) (B : List Int) (d : DV) (w : World) (h : DSt w p v B k bc bd bx N d) (hq0 : Blk w q0 #[.pointer (some ⟨bd,6,none⟩)] 77) (hq1 : Blk w q1 #[.int .i64 (sy : Int)] 3) (hq2 : Blk w q2 #[.int .i64 lg] 3) (hqp : q0 ≠ p ∧ q1 ≠ p ∧ q2 ≠ p) (hsy : sy ≤ 256) {n : Int} (hg : descP ((B.drop k).take 1024) sy lg = .error n) :
  Calls Tryz.prog 79 #[.pointer (some ⟨bc,0,none⟩),.pointer (some ⟨q1,0,none⟩),.pointer (some ⟨q2,0,none⟩),.pointer (some ⟨q0,0,none⟩)] w fun e w' => n ≠ 0 ∧ e = .panicked [raisedBy n false] ∧ Keeps w w' [p] := by
 have HD := Lib.hid (ddecode_any p k sy lg v B w.drew (h.cur.keeps (Keeps.refl w []).drew) hsy)
 rw [hg] at HD
 unfold DescEnd at HD
 simp only at HD
 have HH := Lib.hid h
 have hd0 := h.keeps0 (Keeps.refl w []).drew
 have HQ := Lib.hid hqp
 clear h hg
 go_enter Tryz.func79,Tryz.ntmps79
 refine wp_region_held_drew (S := (fun w' => Blk w' bc #[.pointer (some ⟨p,0,none⟩)] 71 ∧ Blk w' q0 #[.pointer (some ⟨bd,6,none⟩)] 77 ∧ Blk w' q1 #[.int .i64 (sy : Int)] 3 ∧ Blk w' q2 #[.int .i64 lg] 3)) (by kernel_rfl) ⟨hd0.kc,hq0.drew,hq1.drew,hq2.drew⟩ (fun hHeld => ?_)
 refine takeM 0 rfl (by intro w9 hSw;obtain ⟨q0,q1,q2,q3⟩ := hSw;obtain ⟨r0,-⟩ := q0.one;obtain ⟨r1,-⟩ := q1.one;obtain ⟨r2,-⟩ := q2.one;obtain ⟨r3,-⟩ := q3.one;clear q0 q1 q2 q3;go_simp;(try with_reducible rfl)) ?_
 try simp only [Act.put,stA,stZ,stS]
 refine takeM 1 rfl (by intro w9 hSw;obtain ⟨q0,q1,q2,q3⟩ := hSw;obtain ⟨r0,-⟩ := q0.one;obtain ⟨r1,-⟩ := q1.one;obtain ⟨r2,-⟩ := q2.one;obtain ⟨r3,-⟩ := q3.one;clear q0 q1 q2 q3;go_simp;(try with_reducible rfl)) ?_
 try simp only [Act.put,stA,stZ,stS]
 refine takeM 2 rfl (by intro w9 hSw;obtain ⟨q0,q1,q2,q3⟩ := hSw;obtain ⟨r0,-⟩ := q0.one;obtain ⟨r1,-⟩ := q1.one;obtain ⟨r2,-⟩ := q2.one;obtain ⟨r3,-⟩ := q3.one;clear q0 q1 q2 q3;go_simp;(try with_reducible rfl)) ?_
 try simp only [Act.put,stA,stZ,stS]
 refine takeM 3 rfl (by intro w9 hSw;obtain ⟨q0,q1,q2,q3⟩ := hSw;obtain ⟨r0,-⟩ := q0.one;obtain ⟨r1,-⟩ := q1.one;obtain ⟨r2,-⟩ := q2.one;obtain ⟨r3,-⟩ := q3.one;clear q0 q1 q2 q3;go_simp;(try with_reducible rfl)) ?_
 try simp only [Act.put,stA,stZ,stS]
 refine callL (i := 4) rfl (by kernel_rfl) (fun Kont hK => ?_)
 go_simp
 refine HD.out.mono ?_
 rintro e w1 ⟨k1,hne,rfl,cur1⟩
 have k1' : Keeps w w1 [p] := ((Keeps.refl w [p]).drew).trans k1 (fun j hj _ => hj)
 have h1 := Lib.hid (HH.out.read k1' cur1)
 have K1 := Lib.hid k1'
 have hq0' := hHeld.2.1.keeps k1 (by simpa using HQ.out.1)
 have hq1' := hHeld.2.2.1.keeps k1 (by simpa using HQ.out.2.1)
 have hq2' := hHeld.2.2.2.keeps k1 (by simpa using HQ.out.2.2)
 clear k1 cur1 k1'
 go_wp2_with fail
 refine hK.out _ _ ?_ (fun hHeld => ?_)
 ·exact ⟨h1.out.kc,hq0',hq1',hq2'⟩
 clear hK Kont
 refine takeM 5 rfl (by intro w9 hSw;clear hSw;go_simp;(try with_reducible rfl)) ?_
 try simp only [Act.put,stA,stZ,stS]
 refine takeM 6 rfl (by intro w9 hSw;clear hSw;go_simp;(try with_reducible rfl)) ?_
 try simp only [Act.put,stA,stZ,stS]
 refine callL (i := 7) rfl (by kernel_rfl) (fun Kont hK => ?_)
 go_simp
 refine (gott_no _ _ _ _ n hne _).mono ?_
 rintro e w2 ⟨rfl,k2⟩
 first
  | exact ⟨rfl,hne,rfl,K1.out.trans k2 (fun j hj _ => by cases hj)⟩
  | exact ⟨rfl,rfl,K1.out.trans k2 (fun j hj _ => by cases hj)⟩

set_option maxHeartbeats 2000000 in
theorem ft3_yes (p k bc bd bx N q0 q1 q2 sy : Nat) (lg : Int) (v : Value) (B : List Int) (d : DV) (w : World) (h : DSt w p v B k bc bd bx N d) (hq0 : Blk w q0 #[.pointer (some ⟨bd,6,none⟩)] 77) (hq1 : Blk w q1 #[.int .i64 (sy : Int)] 3) (hq2 : Blk w q2 #[.int .i64 lg] 3) (hqp : q0 ≠ p ∧ q1 ≠ p ∧ q2 ≠ p) (hqb : q0 ≠ bd ∧ q1 ≠ bd ∧ q2 ≠ bd) (hsy : sy ≤ 256) {G m : Nat} {L : List Int} (hg : descP ((B.drop k).take 1024) sy lg = .ok (G,L,m)) :
  Calls Tryz.prog 79 #[.pointer (some ⟨bc,0,none⟩),.pointer (some ⟨q1,0,none⟩),.pointer (some ⟨q2,0,none⟩),.pointer (some ⟨q0,0,none⟩)] w fun e w' => e = .returned (.tuple #[]) ∧ (∃ r,DSt w' p v B (k + m) bc bd bx N { d with g3 := (G : Int),n3 := r,L3 := L }) ∧ Keeps w w' [p,bd] := by
 have HD := Lib.hid (ddecode_any p k sy lg v B w.drew (h.cur.keeps (Keeps.refl w []).drew) hsy)
 rw [hg] at HD
 unfold DescEnd at HD
 simp only at HD
 have HH := Lib.hid h
 have hd0 := h.keeps0 (Keeps.refl w []).drew
 have HQ := Lib.hid hqp
 have HB := Lib.hid hqb
 clear h hg
 go_enter Tryz.func79,Tryz.ntmps79
 refine wp_region_held_drew (S := (fun w' => Blk w' bc #[.pointer (some ⟨p,0,none⟩)] 71 ∧ Blk w' q0 #[.pointer (some ⟨bd,6,none⟩)] 77 ∧ Blk w' q1 #[.int .i64 (sy : Int)] 3 ∧ Blk w' q2 #[.int .i64 lg] 3)) (by kernel_rfl) ⟨hd0.kc,hq0.drew,hq1.drew,hq2.drew⟩ (fun hHeld => ?_)
 refine takeM 0 rfl (by intro w9 hSw;obtain ⟨q0,q1,q2,q3⟩ := hSw;obtain ⟨r0,-⟩ := q0.one;obtain ⟨r1,-⟩ := q1.one;obtain ⟨r2,-⟩ := q2.one;obtain ⟨r3,-⟩ := q3.one;clear q0 q1 q2 q3;go_simp;(try with_reducible rfl)) ?_
 try simp only [Act.put,stA,stZ,stS]
 refine takeM 1 rfl (by intro w9 hSw;obtain ⟨q0,q1,q2,q3⟩ := hSw;obtain ⟨r0,-⟩ := q0.one;obtain ⟨r1,-⟩ := q1.one;obtain ⟨r2,-⟩ := q2.one;obtain ⟨r3,-⟩ := q3.one;clear q0 q1 q2 q3;go_simp;(try with_reducible rfl)) ?_
 try simp only [Act.put,stA,stZ,stS]
 refine takeM 2 rfl (by intro w9 hSw;obtain ⟨q0,q1,q2,q3⟩ := hSw;obtain ⟨r0,-⟩ := q0.one;obtain ⟨r1,-⟩ := q1.one;obtain ⟨r2,-⟩ := q2.one;obtain ⟨r3,-⟩ := q3.one;clear q0 q1 q2 q3;go_simp;(try with_reducible rfl)) ?_
 try simp only [Act.put,stA,stZ,stS]
 refine takeM 3 rfl (by intro w9 hSw;obtain ⟨q0,q1,q2,q3⟩ := hSw;obtain ⟨r0,-⟩ := q0.one;obtain ⟨r1,-⟩ := q1.one;obtain ⟨r2,-⟩ := q2.one;obtain ⟨r3,-⟩ := q3.one;clear q0 q1 q2 q3;go_simp;(try with_reducible rfl)) ?_
 try simp only [Act.put,stA,stZ,stS]
 refine callL (i := 4) rfl (by kernel_rfl) (fun Kont hK => ?_)
 go_simp
 refine HD.out.mono ?_
 rintro e w1 ⟨k1,a,c,rfl,own1,hnl,cur1⟩
 have k1' : Keeps w w1 [p] := ((Keeps.refl w [p]).drew).trans k1 (fun j hj _ => hj)
 have h1 := Lib.hid (HH.out.read k1' cur1)
 have K1 := Lib.hid k1'
 have hq0' := hHeld.2.1.keeps k1 (by simpa using HQ.out.1)
 have hq1' := hHeld.2.2.1.keeps k1 (by simpa using HQ.out.2.1)
 have hq2' := hHeld.2.2.2.keeps k1 (by simpa using HQ.out.2.2)
 have R1 := Lib.hid (own_reads own1)
 have F1 := Lib.hid ((own_freshI own1).mono (show N ≤ w.drew.heap.size from HH.out.pN.2.2.2.2))
 clear k1 cur1 k1' own1 hnl
 go_wp2_with fail
 refine hK.out _ _ ?_ (fun hHeld => ?_)
 ·exact ⟨h1.out.kc,hq0',hq1',hq2'⟩
 clear hK Kont
 refine takeM 5 rfl (by intro w9 hSw;clear hSw;go_simp;(try with_reducible rfl)) ?_
 try simp only [Act.put,stA,stZ,stS]
 refine takeM 6 rfl (by intro w9 hSw;clear hSw;go_simp;(try with_reducible rfl)) ?_
 try simp only [Act.put,stA,stZ,stS]
 refine callL (i := 7) rfl (by kernel_rfl) (fun Kont hK => ?_)
 go_simp
 refine (gott_yes _ _ _ _ _).mono ?_
 rintro e w2 ⟨rfl,k2⟩
 have h2 := h1.out.keeps0 k2
 have R2 := Lib.hid (R1.out.keeps k2)
 have K2 := Lib.hid (K1.out.trans k2 (fun j hj _ => by cases hj))
 have hq0'' := hq0'.keeps k2 (by simp)
 have hq1'' := hq1'.keeps k2 (by simp)
 have hq2'' := hq2'.keeps k2 (by simp)
 clear k2
 go_wp2_with fail
 refine hK.out _ _ ?_ (fun hHeld => ?_)
 ·exact ⟨h2.kc,hq0'',hq1'',hq2''⟩
 clear hK Kont
 refine takeM 8 rfl (by intro w9 hSw;obtain ⟨q0,q1,q2,q3⟩ := hSw;obtain ⟨r0,-⟩ := q0.one;obtain ⟨r1,-⟩ := q1.one;obtain ⟨r2,-⟩ := q2.one;obtain ⟨r3,-⟩ := q3.one;clear q0 q1 q2 q3;go_simp;(try with_reducible rfl)) ?_
 try simp only [Act.put,stA,stZ,stS]
 refine callL (i := 9) rfl (by kernel_rfl) (fun Kont hK => ?_)
 refine step_store_two rfl 27 _ _ rfl bd 6 (.int .i64 (G : Int)) (.slice a L.length c) rfl rfl _ _ h2.kd (by simp) tbl_size (by simp [Value.oneCell']) ?_
 intro W9 b9 k9
 have hp := h2.put (d' := { d with g3 := (G : Int),n3 := .slice a L.length c,L3 := L }) k9 (by simpa using b9) ⟨h2.rt,h2.ft⟩ ⟨h2.r1,h2.f1⟩ ⟨h2.r2,h2.f2⟩ ⟨R2.out,F1.out⟩ ⟨h2.rx,h2.fx⟩
 refine hK.out _ _ ?_ (fun hHeld => ?_)
 ·exact ⟨hp.kc,hq0''.keeps k9 (by simpa using HB.out.1),hq1''.keeps k9 (by simpa using HB.out.2.1),hq2''.keeps k9 (by simpa using HB.out.2.2)⟩
 clear hK Kont
 refine wpAnyH_done (by kernel_rfl) ?_ _
 go_wp2_with fail
 go_end0
 exact ⟨rfl,⟨_,hp⟩,kpd K2.out k9⟩


end Go.Proofs.YtcmagccfagijlaaGreat
