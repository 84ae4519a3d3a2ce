/-
  Sizes and its iterator; the law on it: its walk. (Printed by mkYm.py; the walk of the law after the one on LengthCounts.)
-/
import Derived.Test.YtophgpnnjphnmaaGreatQ39
import Derived.Test.YtophgpnnjphnmaaGreatQ36
import Derived.Test.YtophgpnnjphnmaaGreatQ2
import Derived.Deep.DeepCutAuto
import Derived.Deep.CutRange
import Derived.Laws.OwnMore
namespace Go.Proofs.YtophgpnnjphnmaaGreat
set_option linter.unusedVariables false
set_option linter.unusedSimpArgs false
set_option linter.unusedSectionVars false
open Go.RowKit

attribute [local go_sem] Oper.semAt_some

/-- A function value is not nil. -/
@[go_sem] theorem eq_fn_nil (f : Fn) (x y : Array Value) (w : World) : (Go.binOp .eql 55 (.func f x y) .nilFunc).run Tryz.prog w = .ok (.bool false) w := by
  simp only [Go.binOp, Op.equal, Op.maxDepth]
  rw [show (10000 : Nat) = 9999 + 1 from rfl, Op.equalIn]
  simp [go_sem]

theorem LawEnd.of_keeps {w w' : World} (h : Keeps w w' []) : LawEnd w (.returned (.bool true)) w' := ⟨rfl, h.below⟩
/-- How many rounds the first turn makes. -/
def manyOf (n : Nat) (many : Int) : Int := if (n : Int) < (if 1 < many then many else 1) then n else (if 1 < many then many else 1)
theorem manyOf_stop {n k : Nat} {many : Int} (h1 : k < n) (h2 : k = 0 ∨ (k : Int) < many) (h3 : many ≤ (k : Int) + 1) : (((k + 1 : Nat) : Int)) = manyOf n many := by
  unfold manyOf
  repeat' split
  all_goals omega
theorem manyOf_done {n : Nat} {many : Int} (h2 : n = 0 ∨ (n : Int) < many) : (n : Int) = manyOf n many := by
  unfold manyOf
  repeat' split
  all_goals omega
theorem manyOf_cases {n k : Nat} {many : Int} (h : (k : Int) = manyOf n many) : (1 < many → many < (n : Int) → (k : Int) = many) ∧ (1 < many → (n : Int) ≤ many → (k : Int) = n) ∧ (many ≤ 1 → 1 < (n : Int) → (k : Int) = 1) ∧ (many ≤ 1 → (n : Int) ≤ 1 → (k : Int) = n) := by
  unfold manyOf at h
  refine ⟨?_, ?_, ?_, ?_⟩ <;> intro h1 h2 <;> repeat' split at h
  all_goals omega

theorem RdI.below {k : IntKind} {w w' : World} {B : Nat} {v : Value} {l : List Int} (h : RdI k w v l) (kk : Below B w w') (hn : ∀ ad n cp, v = .slice (some ad) n cp → 0 < n → ad.block < B) : RdI k w' v l := by
  obtain ⟨a, n, cp, rfl, hn', h0, hc⟩ := h.form
  refine ⟨a, n, cp, rfl, hn', h0, fun hp => ?_⟩
  obtain ⟨h1, b, o, rfl, h3, h4⟩ := hc hp
  exact ⟨h1, b, o, rfl, Nat.lt_of_lt_of_le h3 kk.size, fun i x hx => (World.cell?_of_block (w := w) (a := ⟨b, o + i, Option.none⟩) (kk.block b (hn _ _ _ rfl hp))).trans (h4 i x hx)⟩


abbrev encK (x : Int × Int) : Array Value := #[.int .i64 x.1, .int .i64 x.2]
def itemK (L : List Int) (k : Nat) : Int × Int := ((k : Int), (L[k]?).getD 0)
/-- The sizes of the descriptions of a tree. -/
def sizesL (l : List Int) : List Int := if treeL l then [((halvesL (wOf l)).length : Int), ((codedE (wOf l)).length : Int)] else []

set_option maxRecDepth 100000 in
set_option maxHeartbeats 4000000 in
theorem sizes1_bad (be bw : Nat) (E : Int) (v : Value) (w : World) (hE : E ≠ 0) (hbe : Blk w be #[.int .i64 E] 24) :
    SeqB Tryz.prog 61 #[.pointer (some ⟨be, 0, none⟩), .pointer (some ⟨bw, 0, none⟩)] encK (fun k => k ≠ be ∧ k ≠ bw ∧ ∀ ad n c, v = .slice (some ad) n c → 0 < n → k ≠ ad.block)
      (fun ys => ys = upto (itemK []) 0) (fun pre => pre <+: upto (itemK []) 0) w := by
  intro lo C J Jx W hW hC hJ hJx hY h0
  have hbe' := hbe.keeps (Keeps.of_below hW) (by simp)
  obtain ⟨e3, -⟩ := hbe'.one
  have hEn : (E != 0) = true := by simpa using hE
  have H0 := Lib.hid h0
  clear hbe hbe' hY hJ hJx hC h0 hE
  refine callsIn_of_wp Tryz.func61 rfl trivial ?_ rfl
  simp only [Tryz.ntmps61, List.size_toArray, List.length_cons, List.length_nil, Nat.reduceAdd, Nat.reduceSub, Array.replicate_succ, Array.replicate_zero, List.push_toArray, List.append_toArray, List.nil_append, List.cons_append]
  refine wpIn_scope ?_
  gi_wp2
  simp only [Exit.noGoto]
  refine bodyPost_ret (v := .tuple #[]) (by simp [results, Tryz.results61]) rfl ⟨⟨_, rfl⟩, .inl ⟨_, rfl, H0.out⟩⟩

set_option maxRecDepth 100000 in
set_option maxHeartbeats 8000000 in
theorem sizes1_ok (be bw : Nat) (v : Value) (WO : List Int) (w : World) (hok : okW WO = true) (hbe : Blk w be #[.int .i64 0] 24) (hbw : Blk w bw #[v] 22) (hr : RdI .i64 w v WO) :
    SeqB Tryz.prog 61 #[.pointer (some ⟨be, 0, none⟩), .pointer (some ⟨bw, 0, none⟩)] encK (fun k => k ≠ be ∧ k ≠ bw ∧ ∀ ad n c, v = .slice (some ad) n c → 0 < n → k ≠ ad.block)
      (fun ys => ys = upto (itemK [((halvesL WO).length : Int), ((codedE WO).length : Int)]) 2) (fun pre => pre <+: upto (itemK [((halvesL WO).length : Int), ((codedE WO).length : Int)]) 2) w := by
  intro lo C J Jx W hW hC hJ hJx hY h0
  obtain ⟨hl0, hl255⟩ := okW_len hok
  have kW := Keeps.of_below hW
  have hbe' := hbe.keeps kW (by simp)
  have HBW := Lib.hid (hbw.keeps kW (by simp))
  have HRD := Lib.hid (hr.keeps kW)
  have HY := Lib.hid hY
  have HC := Lib.hid hC
  have HJ := Lib.hid hJ
  have HFA := Lib.hid (fun u W (h : RdI .i64 W u WO) => halved_any u WO W h (by omega) (okW_bound hok))
  have HFB := Lib.hid (fun u W (h : RdI .i64 W u WO) => coded_any u WO W h (okW_bound hok) hl0 hl255)
  have hix0 : ∀ w : World, (Instr.index 80 (.agg #[.func (.func 80) #[] #[], .func (.func 81) #[] #[]]) (.int .i64 0)).run Tryz.prog w = .ok (.func (.func 80) #[] #[]) w := fun w => by simp [Instr.index, go_sem]
  have hix1 : ∀ w : World, (Instr.index 80 (.agg #[.func (.func 80) #[] #[], .func (.func 81) #[] #[]]) (.int .i64 1)).run Tryz.prog w = .ok (.func (.func 81) #[] #[]) w := fun w => by simp [Instr.index, go_sem]
  obtain ⟨MH, hMH⟩ : ∃ M, (halvesL WO).length = M := ⟨_, rfl⟩
  obtain ⟨MC, hMC⟩ : ∃ M, (codedE WO).length = M := ⟨_, rfl⟩
  rw [hMH, hMC] at HY
  rw [hMH, hMC]
  have HMH := Lib.hid hMH
  have HMC := Lib.hid hMC
  obtain ⟨a0, n0, c0, rfl, -, -⟩ := hr.form
  obtain ⟨e3, -⟩ := hbe'.one
  clear hbe hbw hr hbe' hY hJ hJx hC hok hl0 hl255 hMH hMC kW
  refine callsIn_of_wp Tryz.func61 rfl trivial ?_ rfl
  simp only [Tryz.ntmps61, List.size_toArray, List.length_cons, List.length_nil, Nat.reduceAdd, Nat.reduceSub, Array.replicate_succ, Array.replicate_zero, List.push_toArray, List.append_toArray, List.nil_append, List.cons_append]
  refine wpIn_scope ?_
  gi_wp2
  apply wpIn_label
  gi_wp2_with (first
    | (refine ⟨trivial, ?_⟩; gi_at_call 60; go_loud (refine (callsIn_wide.2 (ways_any _)).mono ?_; rintro e w1 ⟨rfl, k1⟩))
    | (gi_at_call 60; go_loud (refine (callsIn_wide.2 (ways_any _)).mono ?_; rintro e w1 ⟨rfl, k1⟩)))
  have h1 : J [] w1 := HJ.out _ _ _ h0 k1.below
  have hw1 := k1.size
  have HK1 := Lib.hid k1
  have HH1 := Lib.hid h1
  clear h1 h0 k1 e3
  gi_loopw [9] (fun i wr => ∃ k : Nat, k ≤ 2 ∧ i = .int .i64 (k : Int) ∧ Hid (J (upto (itemK [(MH : Int), (MC : Int)]) k) wr) ∧ Keeps W wr C)
    (fun i _ => 2 - (intOf i).toNat)
  case atStart => exact ⟨0, Nat.zero_le _, rfl, HH1.out, HK1.out.mono (by simp)⟩
  case round =>
    obtain ⟨k, hk, rfl, hJs, hkw⟩ := hrel
    have hbwC : bw ∉ C := fun hm => (HC.out bw hm).2.2.1 rfl
    have hb := HBW.out.keeps hkw hbwC
    obtain ⟨e4, -⟩ := hb.one
    have rd := HRD.out.keepsS hkw (fun ad n c e h0 hm => (HC.out _ hm).2.2.2 ad n c e h0 rfl)
    have hW1 := hkw.size
    by_cases hlt : k < 2
    · have hk2 : k = 0 ∨ k = 1 := by omega
      rcases hk2 with rfl | rfl
      · have HFF := Lib.hid (HFA.out _ wr rd)
        clear rd hb hlt
        gi_wp2_with (first
          | (refine ⟨trivial, ?_⟩; gi_at_call 80; go_loud (refine (callsIn_wide.2 HFF.out).mono ?_; rintro e w5 ⟨v5, rfl, own5, k5⟩; obtain ⟨a5, c5, rfl⟩ := own_form own5; have hyy := HY.out (upto (itemK [(MH : Int), (MC : Int)]) 0) (itemK [(MH : Int), (MC : Int)] 0) w5 (HJ.out _ _ _ hJs.out (k5.below.mono hW1)) (by rw [← upto_succ]; exact upto_prefix _ (by omega)); rw [show itemK [(MH : Int), (MC : Int)] 0 = ((0 : Int), (MH : Int)) from rfl] at hyy; obtain ⟨fn, tmps, assign, body, hy, hR⟩ := hyy; dsimp only [encK] at hy; have K5 := Lib.hid (hkw.then k5); try rw [HMH.out]; clear own5 k5))
          | (gi_at_call 80; go_loud (refine (callsIn_wide.2 HFF.out).mono ?_; rintro e w5 ⟨v5, rfl, own5, k5⟩; obtain ⟨a5, c5, rfl⟩ := own_form own5; have hyy := HY.out (upto (itemK [(MH : Int), (MC : Int)]) 0) (itemK [(MH : Int), (MC : Int)] 0) w5 (HJ.out _ _ _ hJs.out (k5.below.mono hW1)) (by rw [← upto_succ]; exact upto_prefix _ (by omega)); rw [show itemK [(MH : Int), (MC : Int)] 0 = ((0 : Int), (MH : Int)) from rfl] at hyy; obtain ⟨fn, tmps, assign, body, hy, hR⟩ := hyy; dsimp only [encK] at hy; have K5 := Lib.hid (hkw.then k5); try rw [HMH.out]; clear own5 k5)))
        refine (round_any hR).mono ?_
        rintro e W3 (⟨rfl, hJ3, hk3⟩ | ⟨rfl, hJx3, hk3⟩)
        · gi_wp2
          go_roundw
          case rel =>
            refine ⟨1, by omega, by first | rfl | go_num, ?_, (K5.out.trans hk3 (fun x hx _ => hx))⟩
            exact hJ3
          case measure => simp [intOf]
        · gi_wp2
          simp only [Exit.noGoto]
          go_end0
          refine ⟨⟨_, rfl⟩, .inr ⟨_, ?_, hJx3⟩⟩
          exact upto_prefix (itemK [(MH : Int), (MC : Int)]) (k := 1) (by omega)
      · have HFF := Lib.hid (HFB.out _ wr rd)
        clear rd hb hlt
        gi_wp2_with (first
          | (refine ⟨trivial, ?_⟩; gi_at_call 81; go_loud (refine (callsIn_wide.2 HFF.out).mono ?_; rintro e w5 ⟨v5, rfl, own5, k5⟩; obtain ⟨a5, c5, rfl⟩ := own_form own5; have hyy := HY.out (upto (itemK [(MH : Int), (MC : Int)]) 1) (itemK [(MH : Int), (MC : Int)] 1) w5 (HJ.out _ _ _ hJs.out (k5.below.mono hW1)) (by rw [← upto_succ]; exact upto_prefix _ (by omega)); rw [show itemK [(MH : Int), (MC : Int)] 1 = ((1 : Int), (MC : Int)) from rfl] at hyy; obtain ⟨fn, tmps, assign, body, hy, hR⟩ := hyy; dsimp only [encK] at hy; have K5 := Lib.hid (hkw.then k5); try rw [HMC.out]; clear own5 k5))
          | (gi_at_call 81; go_loud (refine (callsIn_wide.2 HFF.out).mono ?_; rintro e w5 ⟨v5, rfl, own5, k5⟩; obtain ⟨a5, c5, rfl⟩ := own_form own5; have hyy := HY.out (upto (itemK [(MH : Int), (MC : Int)]) 1) (itemK [(MH : Int), (MC : Int)] 1) w5 (HJ.out _ _ _ hJs.out (k5.below.mono hW1)) (by rw [← upto_succ]; exact upto_prefix _ (by omega)); rw [show itemK [(MH : Int), (MC : Int)] 1 = ((1 : Int), (MC : Int)) from rfl] at hyy; obtain ⟨fn, tmps, assign, body, hy, hR⟩ := hyy; dsimp only [encK] at hy; have K5 := Lib.hid (hkw.then k5); try rw [HMC.out]; clear own5 k5)))
        refine (round_any hR).mono ?_
        rintro e W3 (⟨rfl, hJ3, hk3⟩ | ⟨rfl, hJx3, hk3⟩)
        · gi_wp2
          go_roundw
          case rel =>
            refine ⟨2, by omega, by first | rfl | go_num, ?_, (K5.out.trans hk3 (fun x hx _ => hx))⟩
            exact hJ3
          case measure => simp [intOf]
        · gi_wp2
          simp only [Exit.noGoto]
          go_end0
          refine ⟨⟨_, rfl⟩, .inr ⟨_, ?_, hJx3⟩⟩
          exact upto_prefix (itemK [(MH : Int), (MC : Int)]) (k := 2) (by omega)
    · obtain rfl : k = 2 := by omega
      gi_wp2
      simp only [Exit.noGoto]
      go_end0
      exact ⟨⟨_, rfl⟩, .inl ⟨_, rfl, hJs.out⟩⟩

theorem sizes1_seq (be bw : Nat) (v : Value) (l : List Int) (w : World) (hbe : Blk w be #[.int .i64 (fromErr l)] 24) (hbw : Blk w bw #[v] 22) (hr : RdI .i64 w v (fromOut l)) :
    SeqB Tryz.prog 61 #[.pointer (some ⟨be, 0, none⟩), .pointer (some ⟨bw, 0, none⟩)] encK (fun k => k ≠ be ∧ k ≠ bw ∧ ∀ ad n c, v = .slice (some ad) n c → 0 < n → k ≠ ad.block)
      (fun ys => ys = upto (itemK (sizesL l)) (sizesL l).length) (fun pre => pre <+: upto (itemK (sizesL l)) (sizesL l).length) w := by
  unfold sizesL
  cases ht : treeL l with
  | true =>
    rw [show fromErr l = 0 from if_pos ht] at hbe
    rw [show fromOut l = wOf l from if_pos ht] at hr
    rw [if_pos rfl]
    exact sizes1_ok be bw v (wOf l) w (back_of_tree ht).1 hbe hbw hr
  | false =>
    have hE : fromErr l = 12 := if_neg (by simp [ht])
    rw [hE] at hbe
    rw [if_neg (by simp)]
    exact sizes1_bad be bw 12 v w (by decide) hbe

def SizesEnd (w : World) (l : List Int) (e : Ending) (w' : World) : Prop :=
  ∃ (be bw : Nat) (sv : Value), e = .returned (.func (.func 61) #[] #[.pointer (some ⟨be, 0, none⟩), .pointer (some ⟨bw, 0, none⟩)]) ∧ Blk w' be #[.int .i64 (fromErr l)] 24 ∧ Blk w' bw #[sv] 22 ∧ RdI .i64 w' sv (fromOut l) ∧ (∀ ad n c, sv = .slice (some ad) n c → 0 < n → w.heap.size ≤ ad.block ∧ ad.block < w'.heap.size) ∧ w.heap.size ≤ be ∧ w.heap.size ≤ bw ∧ Keeps w w' []

set_option maxRecDepth 100000 in
theorem sizes_any (v : Value) (l : List Int) (w : World) (hv : RdI .i64 w v l) (hn : l.length ≤ 1000000) : Calls Tryz.prog 34 #[v] w (SizesEnd w l) := by
  have hmf : ∀ (fn : Fn) (first cap : Array Value) (w : World), (Instr.makeFunc fn first cap).run Tryz.prog w = .ok (.func fn first cap) w := fun _ _ _ _ => rfl
  have HF := Lib.hid (fromTree_any v l w hv hn)
  obtain ⟨A0, n, cp0, rfl, -, -⟩ := hv.form
  clear hv hn
  generalize hE : fromErr l = E at *
  have HE := Lib.hid hE
  clear hE
  go_enter Tryz.func34, Tryz.ntmps34
  go_wp2_with (go_at_call 13; go_loud (refine HF.out.mono ?_; rintro e w1 ⟨v1, rfl, r1, f1, k1⟩; obtain ⟨a1, n1, c1, rfl, -, -⟩ := r1.form; have R1 := Lib.hid r1; have F1 := Lib.hid f1; have K1 := Lib.hid k1; clear r1 f1 k1))
  have ka := ((Keeps.refl w1 []).alloc (.cells #[.slice a1 n1 c1] 22)).alloc (.cells #[.int .i64 E] 24)
  have q1 := (Blk.new w1 #[.slice a1 n1 c1] 22).alloc (.cells #[.int .i64 E] 24)
  have q2 := Blk.new (w1.alloc (.cells #[.slice a1 n1 c1] 22)) #[.int .i64 E] 24
  simp only [World.size_alloc] at q2
  have hs := K1.out.size
  go_ret
  refine ⟨_, _, _, rfl, by rw [HE.out]; exact q2, q1, R1.out.keeps ka, fun ad n c e h0 => ?_, by omega, hs, K1.out.then ka⟩
  cases e
  obtain ⟨b, o, he, hb, -⟩ := R1.out.addr h0
  cases he
  have h1 := F1.out _ _ _ rfl
  have h2 := ka.size
  exact ⟨h1, Nat.lt_of_lt_of_le hb h2⟩

/-- What both turns keep; all of it lies below block B. -/
structure SzSt (w : World) (B : Nat) (L WO : List Int) (many E : Int) (be bw r3 r4 r9 : Nat) (aw : Option Addr) (cw M : Nat) (ax : Option Addr) (ns cs : Nat) (W : World) : Prop where
  kx : Keeps w W []
  b3 : Blk W r3 #[.int .i64 many] 3
  b4 : Blk W r4 #[.bool false] 4
  b9 : Blk W r9 #[.slice aw M cw] 22
  kbe : Blk W be #[.int .i64 E] 24
  kbw : Blk W bw #[.slice ax ns cs] 22
  rw : RdI .i64 W (.slice aw M cw) L
  rs : RdI .i64 W (.slice ax ns cs) WO
  l3 : r3 < B
  l4 : r4 < B
  l9 : r9 < B
  le : be < B
  lb : bw < B
  lw : ∀ p, aw = some p → 0 < M → p.block < B
  ls : ∀ ad n c, (Value.slice ax ns cs) = .slice (some ad) n c → 0 < n → ad.block < B
  w0 : w.heap.size ≤ B
theorem SzSt.below {w : World} {B : Nat} {L WO : List Int} {many E : Int} {be bw r3 r4 r9 : Nat} {aw : Option Addr} {cw M : Nat} {ax : Option Addr} {ns cs : Nat} {W W' : World} (h : SzSt w B L WO many E be bw r3 r4 r9 aw cw M ax ns cs W) (k : Below B W W') : SzSt w B L WO many E be bw r3 r4 r9 aw cw M ax ns cs W' :=
  ⟨Keeps.of_below (h.kx.below.trans (k.mono h.w0)), (k.block _ h.l3).trans h.b3, (k.block _ h.l4).trans h.b4, (k.block _ h.l9).trans h.b9, (k.block _ h.le).trans h.kbe, (k.block _ h.lb).trans h.kbw,
    h.rw.below k (fun ad n cp he h0 => by cases he; exact h.lw _ rfl h0), h.rs.below k h.ls, h.l3, h.l4, h.l9, h.le, h.lb, h.lw, h.ls, h.w0⟩

set_option maxRecDepth 100000 in
set_option maxHeartbeats 8000000 in
theorem law_sizes (l : List Int) (many : Int) (v : Value) (w : World) (hv : RdI .i64 w v l) (hm1 : -9223372036854775808 ≤ many) (hm2 : many ≤ 9223372036854775807) :
    Calls Tryz.prog 11 #[v, .int .i64 many] w (LawEnd w) := by
  obtain ⟨A0, n, cp0, rfl, hnl, -⟩ := hv.form
  have k0 : Keeps w ((w.alloc (.cells #[.int .i64 many] 3)).alloc (.cells #[.bool false] 4)) [] := ((Keeps.refl w []).alloc _).alloc _
  have q3 := (Blk.new w #[.int .i64 many] 3).alloc (.cells #[.bool false] 4)
  have q4 := Blk.new (w.alloc (.cells #[.int .i64 many] 3)) #[.bool false] 4
  rw [World.size_alloc] at q4
  by_cases h300 : 300 < n
  · clear hv hnl q3
    have h1 : (300 : Int) < (n : Int) := by omega
    have WK := Lib.hid (works_true ((w.alloc (.cells #[.int .i64 many] 3)).alloc (.cells #[.bool false] 4)))
    go_enter Tryz.func11, Tryz.ntmps11
    go_wp2_with (go_at_call 12; refine WK.out.mono ?_; rintro e w5 ⟨rfl, kk⟩; obtain ⟨c6, f6⟩ := (q4.keeps kk (by simp)).one)
    exact bodyPost_ret (v := .bool true) (res_cell Tryz.results11 rfl (Tryz.loadBool _ _ _ (World.cell?_setCell_same' _ _ _ (by rw [c6]; rfl)))) rfl (LawEnd.of_keeps ((k0.then kk).setCell (.inl (by simp)) _))
  · have hd : decide ((300 : Int) < (n : Int)) = false := decide_eq_false (by omega)
    have hdn : decide (300 < n) = false := decide_eq_false h300
    have hn4 : n ≤ 300 := by omega
    have HV := Lib.hid hv
    have hfl := fromOut_len l
    have HOF := Lib.hid (fun W (k : Keeps w W []) => r_of _ l W (hv.keeps k) (by omega))
    have HHV := Lib.hid (fun W u (h : RdI .i64 W u (fromOut l)) => r_halves u (fromOut l) W h (by omega))
    have HCD := Lib.hid (fun W u (h : RdI .i64 W u (fromOut l)) => encoded_any u (fromOut l) W h (by omega))
    have HSZ := Lib.hid (fun W (k : Keeps w W []) => sizes_any _ l W (hv.keeps k) (by omega))
    unfold SizesEnd at HSZ
    have HSEQ0 := Lib.hid (fun be bw ax ns cs W (h1 : Blk W be #[.int .i64 (fromErr l)] 24) (h2 : Blk W bw #[.slice ax ns cs] 22) (h3 : RdI .i64 W (.slice ax ns cs) (fromOut l)) => sizes1_seq be bw (.slice ax ns cs) l W h1 h2 h3)
    have hLL : (fromErr l = 0 ∧ sizesL l = [((halfOut (fromOut l)).length : Int), ((codedOut (fromOut l)).length : Int)]) ∨ (fromErr l ≠ 0 ∧ sizesL l = []) := by
      cases ht : treeL l with
      | true => left; simp [fromErr, sizesL, fromOut, halfOut, codedOut, ht, (back_of_tree ht).1]
      | false => right; simp [fromErr, sizesL, ht]
    have hb1 : (halfOut (fromOut l)).length ≤ 3000 ∧ (codedOut (fromOut l)).length ≤ 3000 := by
      unfold halfOut codedOut
      cases ho : okW (fromOut l) with
      | true =>
        have h1 := (codedE_len ho).1
        have h2 := halves_len (fromOut l)
        have h3 := varI_len 9 (fromOut l).length (by omega)
        simp only [if_true]
        omega
      | false => simp
    generalize hE : fromErr l = E at *
    generalize hWO : fromOut l = WO at *
    generalize hL : sizesL l = L at *
    obtain ⟨MH, hMH⟩ : ∃ M, (halfOut WO).length = M := ⟨_, rfl⟩
    obtain ⟨MC, hMC⟩ : ∃ M, (codedOut WO).length = M := ⟨_, rfl⟩
    rw [hMH, hMC] at hLL hb1
    have HMH := Lib.hid hMH
    have HMC := Lib.hid hMC
    have HLL := Lib.hid hLL
    obtain ⟨i0, hi0, hz0, hz1, hz2⟩ := info_parts Tryz.infoInt
    clear hv hnl h300 hE hWO hL hMH hMC hLL hfl
    refine calls_of_marks Tryz.func11 rfl ?_
    simp only [Tryz.ntmps11, List.size_toArray, List.length_cons, List.length_nil, Nat.reduceAdd, Nat.reduceSub, Array.replicate_succ, Array.replicate_zero, List.push_toArray, List.append_toArray, List.nil_append, List.cons_append]
    have hcase : (E = 0 ∧ (E != 0) = false) ∨ (E ≠ 0 ∧ (E != 0) = true) := by
      by_cases h : E = 0
      · exact .inl ⟨h, by simp [h]⟩
      · exact .inr ⟨h, by simpa using h⟩
    rcases hcase with ⟨hE0, hEb⟩ | ⟨hE0, hEb⟩
    · have HE0 := Lib.hid hE0
      clear hE0
      go_wp2_with (first
        | (go_at_call 14; go_loud (refine (HOF.out _ k0).mono ?_; rintro e wA ⟨vA, rfl, rA, -, kA⟩; have RA := Lib.hid rA; have KA := Lib.hid (k0.then kA); have QA := Lib.hid (And.intro (q3.keeps kA (by simp)) (q4.keeps kA (by simp))); clear rA kA))
        | (go_at_call 23; go_loud (refine (HHV.out _ _ RA.out).mono ?_; rintro e wB ⟨vB, rfl, rB, -, kB⟩; obtain ⟨aB, nB, cB, rfl, hnB, -⟩ := rB.form; obtain rfl : MH = nB := (hnB.trans HMH.out).symm; have RB := Lib.hid (RA.out.keeps kB); have KB := Lib.hid (KA.out.then kB); have QB := Lib.hid (And.intro (QA.out.1.keeps kB (by simp)) (QA.out.2.keeps kB (by simp))); clear rB kB hnB))
        | (go_at_call 24; go_loud (refine (HCD.out _ _ RB.out).mono ?_; rintro e wC ⟨vC, rfl, rC, -, kC⟩; obtain ⟨aC, nC, cC, rfl, hnC, -⟩ := rC.form; obtain rfl : MC = nC := (hnC.trans HMC.out).symm; have KC := Lib.hid (KB.out.then kC); have QC := Lib.hid (And.intro (QB.out.1.keeps kC (by simp)) (QB.out.2.keeps kC (by simp))); clear rC kC hnC)))

      first
       | (obtain ⟨W0, hW0, hs0, k0W, aw, nw, cw, b9, rw9, haw⟩ : ∃ W0 : World, W0 = ((wC.alloc (.cells #[.int .i64 (MH : Int), .int .i64 (MC : Int)] 3)).alloc (.cells #[.slice (some ⟨wC.heap.size, 0, none⟩) 2 2] 22)) ∧ W0.heap.size = wC.heap.size + 2 ∧ Keeps wC W0 [] ∧ ∃ aw nw cw, Blk W0 (wC.heap.size + 1) #[.slice aw nw cw] 22 ∧ RdI .i64 W0 (.slice aw nw cw) L ∧ ∀ p, aw = some p → p.block < wC.heap.size + 2 := (by
          have b := Blk.new (wC.alloc (.cells #[.int .i64 (MH : Int), .int .i64 (MC : Int)] 3)) #[.slice (some ⟨wC.heap.size, 0, none⟩) 2 2] 22
          rw [World.size_alloc] at b
          have hq := HE0.out
          rcases HLL.out with ⟨h1, h2⟩ | ⟨h1, h2⟩
          · exact ⟨_, rfl, by simp, ((Keeps.refl wC []).alloc _).alloc _, some ⟨wC.heap.size, 0, none⟩, 2, 2, b, by rw [h2]; exact two_reads.keeps ((Keeps.refl _ []).alloc _), fun p hp => by cases hp; simp⟩
          · exact absurd hq h1); rw [← hW0])
       | (obtain ⟨W0, hW0, hs0, k0W, aw, nw, cw, b9, rw9, haw⟩ : ∃ W0 : World, W0 = ((wC.alloc (.cells #[.int .i64 (MH : Int), .int .i64 (MC : Int)] 3)).alloc (.cells #[.slice none 0 0] 22)) ∧ W0.heap.size = wC.heap.size + 2 ∧ Keeps wC W0 [] ∧ ∃ aw nw cw, Blk W0 (wC.heap.size + 1) #[.slice aw nw cw] 22 ∧ RdI .i64 W0 (.slice aw nw cw) L ∧ ∀ p, aw = some p → p.block < wC.heap.size + 2 := (by
          have b := Blk.new (wC.alloc (.cells #[.int .i64 (MH : Int), .int .i64 (MC : Int)] 3)) #[.slice none 0 0] 22
          rw [World.size_alloc] at b
          have hq := HE0.out
          rcases HLL.out with ⟨h1, h2⟩ | ⟨h1, h2⟩
          · exact absurd h1 hq
          · exact ⟨_, rfl, by simp, ((Keeps.refl wC []).alloc _).alloc _, none, 0, 0, b, by rw [h2]; exact .nil, fun p hp => by cases hp⟩); rw [← hW0])
      obtain ⟨R9, hR9⟩ : ∃ r, wC.heap.size + 1 = r := ⟨_, rfl⟩
      rw [hR9] at b9 ⊢
      have hlow : w.heap.size + 2 ≤ wC.heap.size := by have := QC.out.2.lt; omega
      have hR9b : wC.heap.size < R9 ∧ R9 < W0.heap.size := ⟨by omega, b9.lt⟩
      have hnw : nw = L.length := by obtain ⟨a', n', c', he, h1, -⟩ := rw9.form; injection he with _ e2 _; rw [e2]; exact h1
      have kw0 := KC.out.then k0W
      refine (HSZ.out _ kw0).mono ?_
      rintro e w2 ⟨be, bw, sv, rfl, bbe, bbw, rsv, hsv, hbe, hbw, k2⟩
      obtain ⟨ax, ns, cs, rfl, -, -⟩ := rsv.form
      have hs2 := k2.size
      have st : SzSt w w2.heap.size L WO many E be bw w.heap.size (w.heap.size + 1) R9 aw cw nw ax ns cs w2 :=
        ⟨kw0.then k2, (QC.out.1.keeps k0W (by simp)).keeps k2 (by simp), (QC.out.2.keeps k0W (by simp)).keeps k2 (by simp), b9.keeps k2 (by simp), bbe, bbw, rw9.keeps k2, rsv, by omega, by omega, by omega, bbe.lt, bbw.lt, fun p hp h0 => by have := haw p hp; omega, fun ad n c e h0 => (hsv ad n c e h0).2, by omega⟩
      obtain ⟨B, st, hB⟩ : ∃ B, SzSt w B L WO many E be bw w.heap.size (w.heap.size + 1) R9 aw cw nw ax ns cs w2 ∧ B ≤ w2.heap.size := ⟨_, st, Nat.le_refl _⟩
      have HLN : Hid (L.length = nw) := Lib.hid hnw.symm
      have hn2 : nw ≤ 2 := by
        rcases HLL.out with ⟨-, h2⟩ | ⟨-, h2⟩
        · rw [hnw, h2]; simp
        · rw [hnw, h2]; simp
      have HSEQ : Hid (∀ W, Blk W be #[.int .i64 E] 24 → Blk W bw #[.slice ax ns cs] 22 → RdI .i64 W (.slice ax ns cs) WO → SeqB Tryz.prog 61 #[.pointer (some ⟨be, 0, none⟩), .pointer (some ⟨bw, 0, none⟩)] encK (fun k => k ≠ be ∧ k ≠ bw ∧ ∀ ad n c, (Value.slice ax ns cs) = .slice (some ad) n c → 0 < n → k ≠ ad.block) (fun ys => ys = upto (itemK L) nw) (fun pre => pre <+: upto (itemK L) nw) W) := Lib.hid (fun W h1 h2 h3 => by have := HSEQ0.out be bw ax ns cs W h1 h2 h3; rw [HLN.out] at this; exact this)
      clear HSEQ0 HOF HHV HCD HSZ HMH HMC HE0 HLL hEb RA RB KA KB KC QA QB QC k0 q3 q4 hW0 hs0 k0W b9 rw9 haw kw0 bbe bbw rsv hsv hbe hbw k2 hs2 hlow hR9b hnw hR9 hb1
      obtain ⟨wr, rfl⟩ : ∃ x, x = w2 := ⟨_, rfl⟩
      go_wp2_with fail
      refine wp_loop_rounds 3 ?_
      rw [rounds_succ]
      go_wp2_with fail
      have st0 : SzSt w B L WO many E be bw w.heap.size (w.heap.size + 1) R9 aw cw nw ax ns cs ((wr.alloc (.cells #[.int .i64 0] 3)).alloc (.cells #[.int .i64 0] 3)) := st.below (((Below.refl _ wr).alloc hB _).alloc (by simp; omega) _)
      have bT := (Blk.new wr #[.int .i64 0] 3).alloc (.cells #[.int .i64 0] 3)
      have bN := Blk.new (wr.alloc (.cells #[.int .i64 0] 3)) #[.int .i64 0] 3
      simp only [World.size_alloc] at bN
      refine range_PX (gf := 61) (lb := #[.pointer (some ⟨be, 0, none⟩), .pointer (some ⟨bw, 0, none⟩)]) rfl (enters_of Tryz.func61 (by kernel_rfl) rfl)
        (HSEQ.out _ st0.kbe st0.kbw st0.rs) [wr.heap.size + 1] ?hC ?hfine (fun _ => rfl) 2
        (fun pre X => SzSt w B L WO many E be bw w.heap.size (w.heap.size + 1) R9 aw cw nw ax ns cs X ∧ Blk X wr.heap.size #[.int .i64 0] 3 ∧ ∃ k : Nat, pre = upto (itemK L) k ∧ k ≤ nw ∧ (k = 0 ∨ (k : Int) < many) ∧ Blk X (wr.heap.size + 1) #[.int .i64 k] 3)
        (fun pre X => SzSt w B L WO many E be bw w.heap.size (w.heap.size + 1) R9 aw cw nw ax ns cs X ∧ Blk X wr.heap.size #[.int .i64 0] 3 ∧ ∃ k : Nat, (k : Int) = manyOf nw many ∧ k ≤ nw ∧ Blk X (wr.heap.size + 1) #[.int .i64 k] 3)
        (fun X => SzSt w B L WO many E be bw w.heap.size (w.heap.size + 1) R9 aw cw nw ax ns cs X ∧ Blk X wr.heap.size #[.int .i64 0] 3 ∧ ∃ k : Nat, (k : Int) = manyOf nw many ∧ k ≤ nw ∧ Blk X (wr.heap.size + 1) #[.int .i64 k] 3)
        ?hI ?hIx ?h0 ?hround ?hdone ?hstop ?hex ?hrest
      case hC => intro x hx; have := List.mem_singleton.1 hx; subst this; exact ⟨bN.lt, by have := st0.le; omega, by have := st0.lb; omega, fun ad n c e h0 => by have := st0.ls ad n c e h0; omega⟩
      case hfine => exact ⟨by have := st0.le; have := bN.lt; omega, by have := st0.lb; have := bN.lt; omega, fun ad n c e h0 => by have := st0.ls ad n c e h0; have := bN.lt; omega⟩
      case hI =>
        rintro s A B' ⟨h1, h2, k, h3, h4, h5, h6⟩ hab
        exact ⟨h1.below (hab.mono (by have := bN.lt; omega)), (hab.block _ bT.lt).trans h2, k, h3, h4, h5, (hab.block _ bN.lt).trans h6⟩
      case hIx =>
        rintro s A B' ⟨h1, h2, k, h3, h4, h6⟩ hab
        exact ⟨h1.below (hab.mono (by have := bN.lt; omega)), (hab.block _ bT.lt).trans h2, k, h3, h4, (hab.block _ bN.lt).trans h6⟩
      case hstop => exact fun pre X _ h => h
      case hex => exact fun a' W h => by simpa [Exit.inBlock, Exit.noGoto] using h
      case h0 => exact ⟨st0, bT, 0, rfl, Nat.zero_le _, .inl rfl, bN⟩
      case hdone =>
        rintro xs X hS ⟨h1, h2, k, h3, h4, h5, h6⟩
        have hkS : k = nw := by
          rw [h3] at hS
          simpa [upto_length] using congrArg List.length hS
        exact ⟨h1, h2, k, by rw [hkS]; exact manyOf_done (by rw [← hkS]; exact h5), h4, h6⟩
      rotate_left
      focus
        rintro D X hD hK ⟨st1, bT1, k, hkm, hkl, bN1⟩
        obtain ⟨t0, ft0⟩ := bT1.one
        obtain ⟨n0, fn0⟩ := bN1.one
        obtain ⟨m0, fm0⟩ := st1.b3.one
        obtain ⟨w0, fw0⟩ := st1.b9.one
        have hsz1 : wr.heap.size + 1 < X.heap.size := bN1.lt
        have HK := Lib.hid hkm
        clear hkm
        focus
          go_upto_region 23 with fail
          go_cut [100] from 80 to 100 (fun s100 wx => s100 = .bool false ∧ wx = X)
          case first =>
            go_wp2_with fail
            all_goals
              go_meet
              first
                | exact ⟨rfl, rfl⟩
                | (exfalso; obtain ⟨z1, z2, z3, z4⟩ := manyOf_cases HK.out; omega)
                | (refine ⟨?_, rfl⟩; obtain ⟨z1, z2, z3, z4⟩ := manyOf_cases HK.out; have hz : ∀ b : Bool, b = false → Value.bool b = .bool false := (fun b h => by rw [h]); refine hz _ ?_; simp; omega)
        obtain ⟨rfl, rfl⟩ := hcut
        go_wp2_with fail
        rw [rounds_succ]
        go_wp2_with fail
        have hB1 : B ≤ wc.heap.size := by omega
        have hDc : D < wc.heap.size := (Array.getElem?_eq_some_iff.1 hK).1
        have hDB : B ≤ D := by simp at hD; omega
        clear t0 n0 m0 w0 ft0 fn0 fm0 fw0 bT1 bN1 bT bN st st0 HK hkl hB hD hsz1
        obtain ⟨wr, rfl⟩ : ∃ wr, wr = wc := ⟨_, rfl⟩
        have st0 : SzSt w B L WO many E be bw w.heap.size (w.heap.size + 1) R9 aw cw nw ax ns cs ((wr.alloc (.cells #[.int .i64 1] 3)).alloc (.cells #[.int .i64 0] 3)) := st1.below (((Below.refl _ wr).alloc hB1 _).alloc (by simp; omega) _)
        have hK0 : ((wr.alloc (.cells #[.int .i64 1] 3)).alloc (.cells #[.int .i64 0] 3)).heap[D]? = some (.deferred (some [])) := ((((Below.refl wr.heap.size wr).alloc (Nat.le_refl _) _).alloc (by simp) _).block D hDc).trans hK
        have bT := (Blk.new wr #[.int .i64 1] 3).alloc (.cells #[.int .i64 0] 3)
        have bN := Blk.new (wr.alloc (.cells #[.int .i64 1] 3)) #[.int .i64 0] 3
        simp only [World.size_alloc] at bN
        have hB := hB1
        refine range_PX (gf := 61) (lb := #[.pointer (some ⟨be, 0, none⟩), .pointer (some ⟨bw, 0, none⟩)]) rfl (enters_of Tryz.func61 (by kernel_rfl) rfl)
          (HSEQ.out _ st0.kbe st0.kbw st0.rs) [wr.heap.size + 1] ?hC1 ?hfine1 (fun _ => rfl) 2
          (fun pre X => SzSt w B L WO many E be bw w.heap.size (w.heap.size + 1) R9 aw cw nw ax ns cs X ∧ Blk X wr.heap.size #[.int .i64 1] 3 ∧ ∃ k : Nat, pre = upto (itemK L) k ∧ k ≤ nw ∧ X.heap[D]? = some (.deferred (some [])) ∧ Blk X (wr.heap.size + 1) #[.int .i64 k] 3)
          (fun pre X => SzSt w B L WO many E be bw w.heap.size (w.heap.size + 1) R9 aw cw nw ax ns cs X ∧ Blk X wr.heap.size #[.int .i64 1] 3 ∧ ∃ k : Nat, False ∧ k ≤ nw ∧ Blk X (wr.heap.size + 1) #[.int .i64 k] 3)
          (fun X => SzSt w B L WO many E be bw w.heap.size (w.heap.size + 1) R9 aw cw nw ax ns cs X ∧ Blk X wr.heap.size #[.int .i64 1] 3 ∧ X.heap[D]? = some (.deferred (some [])) ∧ Blk X (wr.heap.size + 1) #[.int .i64 (nw : Int)] 3)
          ?hI1 ?hIx1 ?h01 ?hround1 ?hdone1 ?hstop1 ?hex1 ?hrest1
        case hC1 => intro x hx; have := List.mem_singleton.1 hx; subst this; exact ⟨bN.lt, by have := st0.le; omega, by have := st0.lb; omega, fun ad n c e h0 => by have := st0.ls ad n c e h0; omega⟩
        case hfine1 => exact ⟨by have := st0.le; have := bN.lt; omega, by have := st0.lb; have := bN.lt; omega, fun ad n c e h0 => by have := st0.ls ad n c e h0; have := bN.lt; omega⟩
        case hI1 =>
          rintro s A B' ⟨h1, h2, k, h3, h4, h5, h6⟩ hab
          exact ⟨h1.below (hab.mono (by have := bN.lt; omega)), (hab.block _ bT.lt).trans h2, k, h3, h4, (hab.block D (by have := bN.lt; omega)).trans h5, (hab.block _ bN.lt).trans h6⟩
        case hIx1 =>
          rintro s A B' ⟨h1, h2, k, h3, h4, h6⟩ hab
          exact h3.elim
        case hstop1 => exact fun pre X _ ⟨_, _, _, h, _⟩ => h.elim
        case hex1 => exact fun a' W h => by simpa [Exit.inBlock, Exit.noGoto] using h
        case h01 => exact ⟨st0, bT, 0, rfl, Nat.zero_le _, hK0, bN⟩
        case hdone1 =>
          rintro xs X hS ⟨h1, h2, k, h3, h4, h5, h6⟩
          have hkS : k = nw := by
            rw [h3] at hS
            simpa [upto_length] using congrArg List.length hS
          subst hkS
          exact ⟨h1, h2, h5, h6⟩
        rotate_left
        · rintro D' X hD' hK' ⟨st2, bT1, hK2, bN1⟩
          obtain ⟨t0, ft0⟩ := bT1.one
          obtain ⟨n0, fn0⟩ := bN1.one
          obtain ⟨w0, fw0⟩ := st2.b9.one
          have hsz1 : wr.heap.size + 1 < X.heap.size := bN1.lt
          go_wp2_with fail
          rw [rounds_succ]
          go_wp2_with fail
          refine (works_true _).mono ?_
          rintro e w9 ⟨rfl, kk⟩
          have b69 := (st2.b4.alloc (.cells #[.int .i64 2] 3)).keeps kk (by simp)
          obtain ⟨c6, f6⟩ := b69.one
          have hDX : D < X.heap.size := by have := bN.lt; have := bN1.lt; omega
          have hl6 : w.heap.size + 1 < B := st2.l4
          have hDD : D < D' := by have := bN.lt; simp at hD'; omega
          have hDX' : D' < X.heap.size := (Array.getElem?_eq_some_iff.1 hK').1
          have kk2 : Keeps X (w9.setCell ⟨w.heap.size + 1, 0, none⟩ (.bool true)) [w.heap.size + 1] := (((Keeps.refl X [w.heap.size + 1]).alloc _).then kk).setCell (.inr (by simp)) _
          have e1 := (kk2.block D' hDX' (by simp; omega)).trans hK'
          have e2 := (kk2.block D hDX (by simp; omega)).trans hK2
          have b6e := b69.set 0 (.bool true)
          go_wp2_with fail
          refine ⟨by simp, .inl ⟨_, _, rfl, run_takeDeferred e1, ?_⟩⟩
          refine ⟨by simp, .inl ⟨_, _, rfl, run_takeDeferred ((World.putObj_heap_other (by omega)).trans e2), ?_⟩⟩
          have hE : (((w9.setCell ⟨w.heap.size + 1, 0, none⟩ (.bool true)).putObj D' (.deferred none)).putObj D (.deferred none)).cell? ⟨w.heap.size + 1, 0, none⟩ = some (.bool true) := by
            have h1 : Blk (((w9.setCell ⟨w.heap.size + 1, 0, none⟩ (.bool true)).putObj D' (.deferred none)).putObj D (.deferred none)) (w.heap.size + 1) #[.bool true] 4 :=
              (World.putObj_heap_other (by omega)).trans ((World.putObj_heap_other (by omega)).trans b6e)
            exact h1.cell 0
          have hf : Below w.heap.size X (((w9.setCell ⟨w.heap.size + 1, 0, none⟩ (.bool true)).putObj D' (.deferred none)).putObj D (.deferred none)) :=
            ((Below.trans ⟨kk2.os, kk2.tape, kk2.output, kk2.size, fun k hk => kk2.block k (Nat.lt_of_lt_of_le hk st2.kx.size) (by simp; omega)⟩ (Turn.below e1 (by omega))).trans (Turn.below ((World.putObj_heap_other (by omega)).trans e2) (by omega)))
          exact ⟨_, res_cell Tryz.results11 rfl (Tryz.loadBool _ _ _ hE), rfl, st2.kx.below.trans hf⟩
      all_goals
        rintro l' pre x W2 hle hlt2 ⟨st2, bT2, k, rfl, hk, hkm, bN2⟩ hsp
        obtain ⟨hkl, hxx⟩ := upto_next hsp
        obtain ⟨Cn, hCn⟩ : ∃ Cn, L[k]? = some Cn := ⟨_, List.getElem?_eq_getElem (by have := HLN.out; omega)⟩
        have hi2 : itemK L k = ((k : Int), Cn) := by unfold itemK; rw [hCn]; rfl
        have HCN := Lib.hid hCn
        clear hCn
        rw [hi2] at hxx
        subst hxx
        gi_wp2
        refine ⟨Keeps.refl W2 _, fun W3 hT => ?_⟩
        have hBr : Below wr.heap.size W2 W3 := hT.below (by simp at hle; omega)
        have st3 := st2.below (hBr.mono hB)
        have bN3 := hT.blk bN2
        have bT3 := hT.blk bT2
        obtain ⟨n0, fn0⟩ := bN3.one
        obtain ⟨m0, fm0⟩ := st3.b3.one
        obtain ⟨t0, ft0⟩ := bT3.one
        obtain ⟨w0, fw0⟩ := st3.b9.one
        obtain ⟨bb', oo, rfl, hbb, e0⟩ := st3.rw.at HCN.out
        have hcapw := st3.rw.cap
        have hk1 : (k : Int) < (nw : Int) := by omega
        have hk0 : (0 : Int) ≤ (k : Int) := Int.natCast_nonneg _
        have hge : decide ((nw : Int) ≤ (k : Int)) = false := by simp; omega
        have hge2 : decide (nw ≤ k) = false := by simp; omega
        have hlw1 : w.heap.size < wr.heap.size := by have := st3.l3; omega
        have hlw2 : w.heap.size + 1 < wr.heap.size := by have := st3.l4; omega
        have hlw3 : R9 < wr.heap.size := by have := st3.l9; omega
        have hneq1 : ((k : Int) != (k : Int)) = false := by simp
        have hneq2 : (Cn != Cn) = false := by simp
        have HI2 := Lib.hid hi2
        clear hi2 hsp hT st2 bT2 bN2 HCN
        have st4 : ∀ x, SzSt w B L WO many E be bw w.heap.size (w.heap.size + 1) R9 (some ⟨bb', oo, none⟩) cw nw ax ns cs (W3.setCell ⟨wr.heap.size + 1, 0, none⟩ x) := fun x => st3.below ((Below.refl _ W3).setCell (p := ⟨wr.heap.size + 1, 0, none⟩) (by dsimp only; omega) _)
        have bT4 := fun x => bT3.setOther (a := ⟨wr.heap.size + 1, 0, none⟩) (by simp) x
        have bN4 := bN3.set 0 (.int .i64 ((k : Int) + 1))
        have hBr4 : ∀ x, Below wr.heap.size W3 (W3.setCell ⟨wr.heap.size + 1, 0, none⟩ x) := fun x => (Below.refl _ W3).setCell (p := ⟨wr.heap.size + 1, 0, none⟩) (by dsimp only; omega) _
        have k4 : ∀ x, Keeps W3 (W3.setCell ⟨wr.heap.size + 1, 0, none⟩ x) [wr.heap.size + 1] := fun x => (Keeps.refl W3 _).setCell (.inr (by simp)) _
        have ST4 := Lib.hid st4
        have BT4 := Lib.hid bT4
        have BR4 := Lib.hid hBr4
        have K4 := Lib.hid k4
        clear st4 bT4 hBr4 k4
        by_cases hmk : many ≤ (k : Int) + 1
        · have hdm : decide (many ≤ (k : Int) + 1) = true := by simpa using hmk
          gi_wp2
          first
            | exact ⟨K4.out _, rfl, ST4.out _, BT4.out _, k + 1, manyOf_stop hkl hkm hmk, hkl, by simpa using bN4⟩
            | exact ⟨K4.out _, ST4.out _, BT4.out _, k + 1, by rw [upto_succ, HI2.out], hkl, ((BR4.out _).block D hDc).trans ((hBr.block D hDc).trans hkm), by simpa using bN4⟩
        · have hdm : decide (many ≤ (k : Int) + 1) = false := by simpa using hmk
          gi_wp2
          first
            | exact ⟨K4.out _, ST4.out _, BT4.out _, k + 1, by rw [upto_succ, HI2.out], hkl, .inr (by omega), by simpa using bN4⟩
            | exact ⟨K4.out _, ST4.out _, BT4.out _, k + 1, by rw [upto_succ, HI2.out], hkl, ((BR4.out _).block D hDc).trans ((hBr.block D hDc).trans hkm), by simpa using bN4⟩
    · have HE0 := Lib.hid hE0
      clear hE0
      go_wp2_with (first
        | (go_at_call 14; go_loud (refine (HOF.out _ k0).mono ?_; rintro e wA ⟨vA, rfl, rA, -, kA⟩; have RA := Lib.hid rA; have KA := Lib.hid (k0.then kA); have QA := Lib.hid (And.intro (q3.keeps kA (by simp)) (q4.keeps kA (by simp))); clear rA kA))
        | (go_at_call 23; go_loud (refine (HHV.out _ _ RA.out).mono ?_; rintro e wB ⟨vB, rfl, rB, -, kB⟩; obtain ⟨aB, nB, cB, rfl, hnB, -⟩ := rB.form; obtain rfl : MH = nB := (hnB.trans HMH.out).symm; have RB := Lib.hid (RA.out.keeps kB); have KB := Lib.hid (KA.out.then kB); have QB := Lib.hid (And.intro (QA.out.1.keeps kB (by simp)) (QA.out.2.keeps kB (by simp))); clear rB kB hnB))
        | (go_at_call 24; go_loud (refine (HCD.out _ _ RB.out).mono ?_; rintro e wC ⟨vC, rfl, rC, -, kC⟩; obtain ⟨aC, nC, cC, rfl, hnC, -⟩ := rC.form; obtain rfl : MC = nC := (hnC.trans HMC.out).symm; have KC := Lib.hid (KB.out.then kC); have QC := Lib.hid (And.intro (QB.out.1.keeps kC (by simp)) (QB.out.2.keeps kC (by simp))); clear rC kC hnC)))

      first
       | (obtain ⟨W0, hW0, hs0, k0W, aw, nw, cw, b9, rw9, haw⟩ : ∃ W0 : World, W0 = ((wC.alloc (.cells #[.int .i64 (MH : Int), .int .i64 (MC : Int)] 3)).alloc (.cells #[.slice (some ⟨wC.heap.size, 0, none⟩) 2 2] 22)) ∧ W0.heap.size = wC.heap.size + 2 ∧ Keeps wC W0 [] ∧ ∃ aw nw cw, Blk W0 (wC.heap.size + 1) #[.slice aw nw cw] 22 ∧ RdI .i64 W0 (.slice aw nw cw) L ∧ ∀ p, aw = some p → p.block < wC.heap.size + 2 := (by
          have b := Blk.new (wC.alloc (.cells #[.int .i64 (MH : Int), .int .i64 (MC : Int)] 3)) #[.slice (some ⟨wC.heap.size, 0, none⟩) 2 2] 22
          rw [World.size_alloc] at b
          have hq := HE0.out
          rcases HLL.out with ⟨h1, h2⟩ | ⟨h1, h2⟩
          · exact ⟨_, rfl, by simp, ((Keeps.refl wC []).alloc _).alloc _, some ⟨wC.heap.size, 0, none⟩, 2, 2, b, by rw [h2]; exact two_reads.keeps ((Keeps.refl _ []).alloc _), fun p hp => by cases hp; simp⟩
          · exact absurd hq h1); rw [← hW0])
       | (obtain ⟨W0, hW0, hs0, k0W, aw, nw, cw, b9, rw9, haw⟩ : ∃ W0 : World, W0 = ((wC.alloc (.cells #[.int .i64 (MH : Int), .int .i64 (MC : Int)] 3)).alloc (.cells #[.slice none 0 0] 22)) ∧ W0.heap.size = wC.heap.size + 2 ∧ Keeps wC W0 [] ∧ ∃ aw nw cw, Blk W0 (wC.heap.size + 1) #[.slice aw nw cw] 22 ∧ RdI .i64 W0 (.slice aw nw cw) L ∧ ∀ p, aw = some p → p.block < wC.heap.size + 2 := (by
          have b := Blk.new (wC.alloc (.cells #[.int .i64 (MH : Int), .int .i64 (MC : Int)] 3)) #[.slice none 0 0] 22
          rw [World.size_alloc] at b
          have hq := HE0.out
          rcases HLL.out with ⟨h1, h2⟩ | ⟨h1, h2⟩
          · exact absurd h1 hq
          · exact ⟨_, rfl, by simp, ((Keeps.refl wC []).alloc _).alloc _, none, 0, 0, b, by rw [h2]; exact .nil, fun p hp => by cases hp⟩); rw [← hW0])
      obtain ⟨R9, hR9⟩ : ∃ r, wC.heap.size + 1 = r := ⟨_, rfl⟩
      rw [hR9] at b9 ⊢
      have hlow : w.heap.size + 2 ≤ wC.heap.size := by have := QC.out.2.lt; omega
      have hR9b : wC.heap.size < R9 ∧ R9 < W0.heap.size := ⟨by omega, b9.lt⟩
      have hnw : nw = L.length := by obtain ⟨a', n', c', he, h1, -⟩ := rw9.form; injection he with _ e2 _; rw [e2]; exact h1
      have kw0 := KC.out.then k0W
      refine (HSZ.out _ kw0).mono ?_
      rintro e w2 ⟨be, bw, sv, rfl, bbe, bbw, rsv, hsv, hbe, hbw, k2⟩
      obtain ⟨ax, ns, cs, rfl, -, -⟩ := rsv.form
      have hs2 := k2.size
      have st : SzSt w w2.heap.size L WO many E be bw w.heap.size (w.heap.size + 1) R9 aw cw nw ax ns cs w2 :=
        ⟨kw0.then k2, (QC.out.1.keeps k0W (by simp)).keeps k2 (by simp), (QC.out.2.keeps k0W (by simp)).keeps k2 (by simp), b9.keeps k2 (by simp), bbe, bbw, rw9.keeps k2, rsv, by omega, by omega, by omega, bbe.lt, bbw.lt, fun p hp h0 => by have := haw p hp; omega, fun ad n c e h0 => (hsv ad n c e h0).2, by omega⟩
      obtain ⟨B, st, hB⟩ : ∃ B, SzSt w B L WO many E be bw w.heap.size (w.heap.size + 1) R9 aw cw nw ax ns cs w2 ∧ B ≤ w2.heap.size := ⟨_, st, Nat.le_refl _⟩
      have HLN : Hid (L.length = nw) := Lib.hid hnw.symm
      have hn2 : nw ≤ 2 := by
        rcases HLL.out with ⟨-, h2⟩ | ⟨-, h2⟩
        · rw [hnw, h2]; simp
        · rw [hnw, h2]; simp
      have HSEQ : Hid (∀ W, Blk W be #[.int .i64 E] 24 → Blk W bw #[.slice ax ns cs] 22 → RdI .i64 W (.slice ax ns cs) WO → SeqB Tryz.prog 61 #[.pointer (some ⟨be, 0, none⟩), .pointer (some ⟨bw, 0, none⟩)] encK (fun k => k ≠ be ∧ k ≠ bw ∧ ∀ ad n c, (Value.slice ax ns cs) = .slice (some ad) n c → 0 < n → k ≠ ad.block) (fun ys => ys = upto (itemK L) nw) (fun pre => pre <+: upto (itemK L) nw) W) := Lib.hid (fun W h1 h2 h3 => by have := HSEQ0.out be bw ax ns cs W h1 h2 h3; rw [HLN.out] at this; exact this)
      clear HSEQ0 HOF HHV HCD HSZ HMH HMC HE0 HLL hEb RA RB KA KB KC QA QB QC k0 q3 q4 hW0 hs0 k0W b9 rw9 haw kw0 bbe bbw rsv hsv hbe hbw k2 hs2 hlow hR9b hnw hR9 hb1
      obtain ⟨wr, rfl⟩ : ∃ x, x = w2 := ⟨_, rfl⟩
      go_wp2_with fail
      refine wp_loop_rounds 3 ?_
      rw [rounds_succ]
      go_wp2_with fail
      have st0 : SzSt w B L WO many E be bw w.heap.size (w.heap.size + 1) R9 aw cw nw ax ns cs ((wr.alloc (.cells #[.int .i64 0] 3)).alloc (.cells #[.int .i64 0] 3)) := st.below (((Below.refl _ wr).alloc hB _).alloc (by simp; omega) _)
      have bT := (Blk.new wr #[.int .i64 0] 3).alloc (.cells #[.int .i64 0] 3)
      have bN := Blk.new (wr.alloc (.cells #[.int .i64 0] 3)) #[.int .i64 0] 3
      simp only [World.size_alloc] at bN
      refine range_PX (gf := 61) (lb := #[.pointer (some ⟨be, 0, none⟩), .pointer (some ⟨bw, 0, none⟩)]) rfl (enters_of Tryz.func61 (by kernel_rfl) rfl)
        (HSEQ.out _ st0.kbe st0.kbw st0.rs) [wr.heap.size + 1] ?hCb ?hfineb (fun _ => rfl) 2
        (fun pre X => SzSt w B L WO many E be bw w.heap.size (w.heap.size + 1) R9 aw cw nw ax ns cs X ∧ Blk X wr.heap.size #[.int .i64 0] 3 ∧ ∃ k : Nat, pre = upto (itemK L) k ∧ k ≤ nw ∧ (k = 0 ∨ (k : Int) < many) ∧ Blk X (wr.heap.size + 1) #[.int .i64 k] 3)
        (fun pre X => SzSt w B L WO many E be bw w.heap.size (w.heap.size + 1) R9 aw cw nw ax ns cs X ∧ Blk X wr.heap.size #[.int .i64 0] 3 ∧ ∃ k : Nat, (k : Int) = manyOf nw many ∧ k ≤ nw ∧ Blk X (wr.heap.size + 1) #[.int .i64 k] 3)
        (fun X => SzSt w B L WO many E be bw w.heap.size (w.heap.size + 1) R9 aw cw nw ax ns cs X ∧ Blk X wr.heap.size #[.int .i64 0] 3 ∧ ∃ k : Nat, (k : Int) = manyOf nw many ∧ k ≤ nw ∧ Blk X (wr.heap.size + 1) #[.int .i64 k] 3)
        ?hIb ?hIxb ?h0b ?hroundb ?hdoneb ?hstopb ?hexb ?hrestb
      case hCb => intro x hx; have := List.mem_singleton.1 hx; subst this; exact ⟨bN.lt, by have := st0.le; omega, by have := st0.lb; omega, fun ad n c e h0 => by have := st0.ls ad n c e h0; omega⟩
      case hfineb => exact ⟨by have := st0.le; have := bN.lt; omega, by have := st0.lb; have := bN.lt; omega, fun ad n c e h0 => by have := st0.ls ad n c e h0; have := bN.lt; omega⟩
      case hIb =>
        rintro s A B' ⟨h1, h2, k, h3, h4, h5, h6⟩ hab
        exact ⟨h1.below (hab.mono (by have := bN.lt; omega)), (hab.block _ bT.lt).trans h2, k, h3, h4, h5, (hab.block _ bN.lt).trans h6⟩
      case hIxb =>
        rintro s A B' ⟨h1, h2, k, h3, h4, h6⟩ hab
        exact ⟨h1.below (hab.mono (by have := bN.lt; omega)), (hab.block _ bT.lt).trans h2, k, h3, h4, (hab.block _ bN.lt).trans h6⟩
      case hstopb => exact fun pre X _ h => h
      case hexb => exact fun a' W h => by simpa [Exit.inBlock, Exit.noGoto] using h
      case h0b => exact ⟨st0, bT, 0, rfl, Nat.zero_le _, .inl rfl, bN⟩
      case hdoneb =>
        rintro xs X hS ⟨h1, h2, k, h3, h4, h5, h6⟩
        have hkS : k = nw := by
          rw [h3] at hS
          simpa [upto_length] using congrArg List.length hS
        exact ⟨h1, h2, k, by rw [hkS]; exact manyOf_done (by rw [← hkS]; exact h5), h4, h6⟩
      rotate_left
      focus
        rintro D X hD hK ⟨st1, bT1, k, hkm, hkl, bN1⟩
        obtain ⟨t0, ft0⟩ := bT1.one
        obtain ⟨n0, fn0⟩ := bN1.one
        obtain ⟨m0, fm0⟩ := st1.b3.one
        obtain ⟨w0, fw0⟩ := st1.b9.one
        have hsz1 : wr.heap.size + 1 < X.heap.size := bN1.lt
        have HK := Lib.hid hkm
        clear hkm
        focus
          go_upto_region 23 with fail
          go_cut [100] from 80 to 100 (fun s100 wx => s100 = .bool false ∧ wx = X)
          case first =>
            go_wp2_with fail
            all_goals
              go_meet
              first
                | exact ⟨rfl, rfl⟩
                | (exfalso; obtain ⟨z1, z2, z3, z4⟩ := manyOf_cases HK.out; omega)
                | (refine ⟨?_, rfl⟩; obtain ⟨z1, z2, z3, z4⟩ := manyOf_cases HK.out; have hz : ∀ b : Bool, b = false → Value.bool b = .bool false := (fun b h => by rw [h]); refine hz _ ?_; simp; omega)
        obtain ⟨rfl, rfl⟩ := hcut
        go_wp2_with fail
        rw [rounds_succ]
        go_wp2_with fail
        have hB1 : B ≤ wc.heap.size := by omega
        have hDc : D < wc.heap.size := (Array.getElem?_eq_some_iff.1 hK).1
        have hDB : B ≤ D := by simp at hD; omega
        clear t0 n0 m0 w0 ft0 fn0 fm0 fw0 bT1 bN1 bT bN st st0 HK hkl hB hD hsz1
        obtain ⟨wr, rfl⟩ : ∃ wr, wr = wc := ⟨_, rfl⟩
        have st0 : SzSt w B L WO many E be bw w.heap.size (w.heap.size + 1) R9 aw cw nw ax ns cs ((wr.alloc (.cells #[.int .i64 1] 3)).alloc (.cells #[.int .i64 0] 3)) := st1.below (((Below.refl _ wr).alloc hB1 _).alloc (by simp; omega) _)
        have hK0 : ((wr.alloc (.cells #[.int .i64 1] 3)).alloc (.cells #[.int .i64 0] 3)).heap[D]? = some (.deferred (some [])) := ((((Below.refl wr.heap.size wr).alloc (Nat.le_refl _) _).alloc (by simp) _).block D hDc).trans hK
        have bT := (Blk.new wr #[.int .i64 1] 3).alloc (.cells #[.int .i64 0] 3)
        have bN := Blk.new (wr.alloc (.cells #[.int .i64 1] 3)) #[.int .i64 0] 3
        simp only [World.size_alloc] at bN
        have hB := hB1
        refine range_PX (gf := 61) (lb := #[.pointer (some ⟨be, 0, none⟩), .pointer (some ⟨bw, 0, none⟩)]) rfl (enters_of Tryz.func61 (by kernel_rfl) rfl)
          (HSEQ.out _ st0.kbe st0.kbw st0.rs) [wr.heap.size + 1] ?hC1b ?hfine1b (fun _ => rfl) 2
          (fun pre X => SzSt w B L WO many E be bw w.heap.size (w.heap.size + 1) R9 aw cw nw ax ns cs X ∧ Blk X wr.heap.size #[.int .i64 1] 3 ∧ ∃ k : Nat, pre = upto (itemK L) k ∧ k ≤ nw ∧ X.heap[D]? = some (.deferred (some [])) ∧ Blk X (wr.heap.size + 1) #[.int .i64 k] 3)
          (fun pre X => SzSt w B L WO many E be bw w.heap.size (w.heap.size + 1) R9 aw cw nw ax ns cs X ∧ Blk X wr.heap.size #[.int .i64 1] 3 ∧ ∃ k : Nat, False ∧ k ≤ nw ∧ Blk X (wr.heap.size + 1) #[.int .i64 k] 3)
          (fun X => SzSt w B L WO many E be bw w.heap.size (w.heap.size + 1) R9 aw cw nw ax ns cs X ∧ Blk X wr.heap.size #[.int .i64 1] 3 ∧ X.heap[D]? = some (.deferred (some [])) ∧ Blk X (wr.heap.size + 1) #[.int .i64 (nw : Int)] 3)
          ?hI1b ?hIx1b ?h01b ?hround1b ?hdone1b ?hstop1b ?hex1b ?hrest1b
        case hC1b => intro x hx; have := List.mem_singleton.1 hx; subst this; exact ⟨bN.lt, by have := st0.le; omega, by have := st0.lb; omega, fun ad n c e h0 => by have := st0.ls ad n c e h0; omega⟩
        case hfine1b => exact ⟨by have := st0.le; have := bN.lt; omega, by have := st0.lb; have := bN.lt; omega, fun ad n c e h0 => by have := st0.ls ad n c e h0; have := bN.lt; omega⟩
        case hI1b =>
          rintro s A B' ⟨h1, h2, k, h3, h4, h5, h6⟩ hab
          exact ⟨h1.below (hab.mono (by have := bN.lt; omega)), (hab.block _ bT.lt).trans h2, k, h3, h4, (hab.block D (by have := bN.lt; omega)).trans h5, (hab.block _ bN.lt).trans h6⟩
        case hIx1b =>
          rintro s A B' ⟨h1, h2, k, h3, h4, h6⟩ hab
          exact h3.elim
        case hstop1b => exact fun pre X _ ⟨_, _, _, h, _⟩ => h.elim
        case hex1b => exact fun a' W h => by simpa [Exit.inBlock, Exit.noGoto] using h
        case h01b => exact ⟨st0, bT, 0, rfl, Nat.zero_le _, hK0, bN⟩
        case hdone1b =>
          rintro xs X hS ⟨h1, h2, k, h3, h4, h5, h6⟩
          have hkS : k = nw := by
            rw [h3] at hS
            simpa [upto_length] using congrArg List.length hS
          subst hkS
          exact ⟨h1, h2, h5, h6⟩
        rotate_left
        · rintro D' X hD' hK' ⟨st2, bT1, hK2, bN1⟩
          obtain ⟨t0, ft0⟩ := bT1.one
          obtain ⟨n0, fn0⟩ := bN1.one
          obtain ⟨w0, fw0⟩ := st2.b9.one
          have hsz1 : wr.heap.size + 1 < X.heap.size := bN1.lt
          go_wp2_with fail
          rw [rounds_succ]
          go_wp2_with fail
          refine (works_true _).mono ?_
          rintro e w9 ⟨rfl, kk⟩
          have b69 := (st2.b4.alloc (.cells #[.int .i64 2] 3)).keeps kk (by simp)
          obtain ⟨c6, f6⟩ := b69.one
          have hDX : D < X.heap.size := by have := bN.lt; have := bN1.lt; omega
          have hl6 : w.heap.size + 1 < B := st2.l4
          have hDD : D < D' := by have := bN.lt; simp at hD'; omega
          have hDX' : D' < X.heap.size := (Array.getElem?_eq_some_iff.1 hK').1
          have kk2 : Keeps X (w9.setCell ⟨w.heap.size + 1, 0, none⟩ (.bool true)) [w.heap.size + 1] := (((Keeps.refl X [w.heap.size + 1]).alloc _).then kk).setCell (.inr (by simp)) _
          have e1 := (kk2.block D' hDX' (by simp; omega)).trans hK'
          have e2 := (kk2.block D hDX (by simp; omega)).trans hK2
          have b6e := b69.set 0 (.bool true)
          go_wp2_with fail
          refine ⟨by simp, .inl ⟨_, _, rfl, run_takeDeferred e1, ?_⟩⟩
          refine ⟨by simp, .inl ⟨_, _, rfl, run_takeDeferred ((World.putObj_heap_other (by omega)).trans e2), ?_⟩⟩
          have hE : (((w9.setCell ⟨w.heap.size + 1, 0, none⟩ (.bool true)).putObj D' (.deferred none)).putObj D (.deferred none)).cell? ⟨w.heap.size + 1, 0, none⟩ = some (.bool true) := by
            have h1 : Blk (((w9.setCell ⟨w.heap.size + 1, 0, none⟩ (.bool true)).putObj D' (.deferred none)).putObj D (.deferred none)) (w.heap.size + 1) #[.bool true] 4 :=
              (World.putObj_heap_other (by omega)).trans ((World.putObj_heap_other (by omega)).trans b6e)
            exact h1.cell 0
          have hf : Below w.heap.size X (((w9.setCell ⟨w.heap.size + 1, 0, none⟩ (.bool true)).putObj D' (.deferred none)).putObj D (.deferred none)) :=
            ((Below.trans ⟨kk2.os, kk2.tape, kk2.output, kk2.size, fun k hk => kk2.block k (Nat.lt_of_lt_of_le hk st2.kx.size) (by simp; omega)⟩ (Turn.below e1 (by omega))).trans (Turn.below ((World.putObj_heap_other (by omega)).trans e2) (by omega)))
          exact ⟨_, res_cell Tryz.results11 rfl (Tryz.loadBool _ _ _ hE), rfl, st2.kx.below.trans hf⟩
      all_goals
        rintro l' pre x W2 hle hlt2 ⟨st2, bT2, k, rfl, hk, hkm, bN2⟩ hsp
        obtain ⟨hkl, hxx⟩ := upto_next hsp
        obtain ⟨Cn, hCn⟩ : ∃ Cn, L[k]? = some Cn := ⟨_, List.getElem?_eq_getElem (by have := HLN.out; omega)⟩
        have hi2 : itemK L k = ((k : Int), Cn) := by unfold itemK; rw [hCn]; rfl
        have HCN := Lib.hid hCn
        clear hCn
        rw [hi2] at hxx
        subst hxx
        gi_wp2
        refine ⟨Keeps.refl W2 _, fun W3 hT => ?_⟩
        have hBr : Below wr.heap.size W2 W3 := hT.below (by simp at hle; omega)
        have st3 := st2.below (hBr.mono hB)
        have bN3 := hT.blk bN2
        have bT3 := hT.blk bT2
        obtain ⟨n0, fn0⟩ := bN3.one
        obtain ⟨m0, fm0⟩ := st3.b3.one
        obtain ⟨t0, ft0⟩ := bT3.one
        obtain ⟨w0, fw0⟩ := st3.b9.one
        obtain ⟨bb', oo, rfl, hbb, e0⟩ := st3.rw.at HCN.out
        have hcapw := st3.rw.cap
        have hk1 : (k : Int) < (nw : Int) := by omega
        have hk0 : (0 : Int) ≤ (k : Int) := Int.natCast_nonneg _
        have hge : decide ((nw : Int) ≤ (k : Int)) = false := by simp; omega
        have hge2 : decide (nw ≤ k) = false := by simp; omega
        have hlw1 : w.heap.size < wr.heap.size := by have := st3.l3; omega
        have hlw2 : w.heap.size + 1 < wr.heap.size := by have := st3.l4; omega
        have hlw3 : R9 < wr.heap.size := by have := st3.l9; omega
        have hneq1 : ((k : Int) != (k : Int)) = false := by simp
        have hneq2 : (Cn != Cn) = false := by simp
        have HI2 := Lib.hid hi2
        clear hi2 hsp hT st2 bT2 bN2 HCN
        have st4 : ∀ x, SzSt w B L WO many E be bw w.heap.size (w.heap.size + 1) R9 (some ⟨bb', oo, none⟩) cw nw ax ns cs (W3.setCell ⟨wr.heap.size + 1, 0, none⟩ x) := fun x => st3.below ((Below.refl _ W3).setCell (p := ⟨wr.heap.size + 1, 0, none⟩) (by dsimp only; omega) _)
        have bT4 := fun x => bT3.setOther (a := ⟨wr.heap.size + 1, 0, none⟩) (by simp) x
        have bN4 := bN3.set 0 (.int .i64 ((k : Int) + 1))
        have hBr4 : ∀ x, Below wr.heap.size W3 (W3.setCell ⟨wr.heap.size + 1, 0, none⟩ x) := fun x => (Below.refl _ W3).setCell (p := ⟨wr.heap.size + 1, 0, none⟩) (by dsimp only; omega) _
        have k4 : ∀ x, Keeps W3 (W3.setCell ⟨wr.heap.size + 1, 0, none⟩ x) [wr.heap.size + 1] := fun x => (Keeps.refl W3 _).setCell (.inr (by simp)) _
        have ST4 := Lib.hid st4
        have BT4 := Lib.hid bT4
        have BR4 := Lib.hid hBr4
        have K4 := Lib.hid k4
        clear st4 bT4 hBr4 k4
        by_cases hmk : many ≤ (k : Int) + 1
        · have hdm : decide (many ≤ (k : Int) + 1) = true := by simpa using hmk
          gi_wp2
          first
            | exact ⟨K4.out _, rfl, ST4.out _, BT4.out _, k + 1, manyOf_stop hkl hkm hmk, hkl, by simpa using bN4⟩
            | exact ⟨K4.out _, ST4.out _, BT4.out _, k + 1, by rw [upto_succ, HI2.out], hkl, ((BR4.out _).block D hDc).trans ((hBr.block D hDc).trans hkm), by simpa using bN4⟩
        · have hdm : decide (many ≤ (k : Int) + 1) = false := by simpa using hmk
          gi_wp2
          first
            | exact ⟨K4.out _, ST4.out _, BT4.out _, k + 1, by rw [upto_succ, HI2.out], hkl, .inr (by omega), by simpa using bN4⟩
            | exact ⟨K4.out _, ST4.out _, BT4.out _, k + 1, by rw [upto_succ, HI2.out], hkl, ((BR4.out _).block D hDc).trans ((hBr.block D hDc).trans hkm), by simpa using bN4⟩


end Go.Proofs.YtophgpnnjphnmaaGreat
