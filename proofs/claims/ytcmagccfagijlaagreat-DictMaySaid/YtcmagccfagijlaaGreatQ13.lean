/-
  num.read at uint32: the deferred function that takes the cursor back; the call. (Printed by mkDI.py.)
  What an iterator has handed out after k rounds. No program is in sight here.
  slices.Backward over bytes: its iterator's contract.
  A region that draws its order and calls, walked as ONE line of steps: the condition on the world may be chosen anew, and stronger, behind each call. No program is in sight here.
-/
import Derived.Test.YtcmagccfagijlaaGreatQ12
import Derived.Test.YtcmagccfagijlaaGreatQ6
import Derived.Test.YtcmagccfagijlaaGreatQ1
import Derived.Test.YtcmagccfagijlaaGreatQ8
import Derived.Test.YtcmagccfagijlaaGreatQ10
import Derived.Deep.RegionHeld3
import Derived.WalkKit
namespace Go.Proofs.YtcmagccfagijlaaGreat
section
set_option linter.unusedVariables false
set_option linter.unusedSimpArgs false
set_option linter.unusedSectionVars false
open Go.RowKit

theorem backU32_ok (be bf bx bc : Nat) (u : FrameMode) (w : World) (he : Blk w be #[.int .i64 0] 33) :
    CallsD Tryz.prog 155 #[.pointer (some ⟨be, 0, none⟩), .pointer (some ⟨bf, 0, none⟩), .pointer (some ⟨bx, 0, none⟩), .pointer (some ⟨bc, 0, none⟩)] u w fun e u' w' => u' = u ∧ (e = .returned (.tuple #[]) ∧ w' = w) := by
  obtain ⟨e0, -⟩ := he.one
  go_enter_d Tryz.func155, Tryz.ntmps155
  go_wp2_with fail
  go_end0
  exact ⟨rfl, rfl⟩

theorem backU32_bad (be bf bx bc p : Nat) (n k : Int) (z : Value) (x0 x1 : Value) (hn : (n != 0) = true) (u : FrameMode) (w : World) (he : Blk w be #[.int .i64 n] 33) (hf : Blk w bf #[.int .i64 k] 3) (hx : Blk w bx #[z] 24)
    (hc : Blk w bc #[.pointer (some ⟨p, 0, none⟩)] 71) (hp : Blk w p #[x0, x1] 127) (hxp : bx ≠ p) :
    CallsD Tryz.prog 155 #[.pointer (some ⟨be, 0, none⟩), .pointer (some ⟨bf, 0, none⟩), .pointer (some ⟨bx, 0, none⟩), .pointer (some ⟨bc, 0, none⟩)] u w fun e u' w' => u' = u ∧ (e = .returned (.tuple #[]) ∧ w' = (w.setCell ⟨bx, 0, none⟩ (.int .u32 0)).setCell ⟨p, 1, none⟩ (.int .i64 k)) := by
  obtain ⟨e0, -⟩ := he.one
  obtain ⟨f0, -⟩ := hf.one
  obtain ⟨z0, z1⟩ := hx.one
  obtain ⟨c0, -⟩ := hc.one
  have p1 := hp.cell 1
  have p2 := hp.frozen 1
  simp at p1
  have hpx := hxp.symm
  clear he hf hx hc hp
  go_enter_d Tryz.func155, Tryz.ntmps155
  go_wp2_with fail
  go_end0
  exact ⟨rfl, rfl⟩

set_option maxRecDepth 100000 in
set_option maxHeartbeats 2000000 in
/-- A read that succeeds, or fails: the cursor comes back. -/
theorem readU32_any (p k k' : Nat) (v : Value) (B : List Int) (w : World) (lb : Array Value) (x : Int) (n : Int) (hc : Cur w p v B k)
    (hg : ∀ w1, Keeps w w1 [] → Calls Tryz.prog 121 lb w1 (CurEnd w1 p v B (.int .u32 x) n k')) :
    Calls Tryz.prog 120 #[.pointer (some ⟨p, 0, none⟩), .func (.func 121) #[] lb] w (CurEnd w p v B (.int .u32 (if n = 0 then x else 0)) n (if n = 0 then k' else k)) := by
  have hmf : ∀ (fn : Fn) (first cap : Array Value) (w : World), (Instr.makeFunc fn first cap).run Tryz.prog w = .ok (.func fn first cap) w := fun _ _ _ _ => rfl
  have HG := Lib.hid hg
  obtain ⟨XO, hXO⟩ : ∃ XO, XO = (if n = 0 then x else 0) := ⟨_, rfl⟩
  obtain ⟨KO, hKO⟩ : ∃ KO, KO = (if n = 0 then k' else k) := ⟨_, rfl⟩
  rw [← hXO, ← hKO]
  have HXO := Lib.hid hXO
  have HKO := Lib.hid hKO
  clear hXO hKO
  have HC := Lib.hid hc
  obtain ⟨c0, c1, f1⟩ := hc.cells
  obtain ⟨hlp, hlv⟩ := hc.old
  have HLV := Lib.hid hlv
  have hkB := Lib.hid hc.le
  clear hc hg hlv
  go_enter_defers Tryz.func120, Tryz.ntmps120
  go_wp2_with fail
  have k0 : Keeps w ((((w.alloc (.cells #[.pointer (some ⟨p, 0, none⟩)] 71)).alloc (.cells #[.int .u32 0] 24)).alloc (.cells #[.int .i64 0] 33)).alloc (.cells #[.int .i64 (k : Int)] 3)) [] := ((((Keeps.refl w []).alloc _).alloc _).alloc _).alloc _
  have q0 := (((Blk.new w #[.pointer (some ⟨p, 0, none⟩)] 71).alloc (.cells #[.int .u32 0] 24)).alloc (.cells #[.int .i64 0] 33)).alloc (.cells #[.int .i64 (k : Int)] 3)
  have q1 := ((Blk.new (w.alloc (.cells #[.pointer (some ⟨p, 0, none⟩)] 71)) #[.int .u32 0] 24).alloc (.cells #[.int .i64 0] 33)).alloc (.cells #[.int .i64 (k : Int)] 3)
  have q2 := (Blk.new ((w.alloc (.cells #[.pointer (some ⟨p, 0, none⟩)] 71)).alloc (.cells #[.int .u32 0] 24)) #[.int .i64 0] 33).alloc (.cells #[.int .i64 (k : Int)] 3)
  have q3 := Blk.new (((w.alloc (.cells #[.pointer (some ⟨p, 0, none⟩)] 71)).alloc (.cells #[.int .u32 0] 24)).alloc (.cells #[.int .i64 0] 33)) #[.int .i64 (k : Int)] 3
  simp only [World.size_alloc] at q1 q2 q3
  have hsz : ((((w.alloc (.cells #[.pointer (some ⟨p, 0, none⟩)] 71)).alloc (.cells #[.int .u32 0] 24)).alloc (.cells #[.int .i64 0] 33)).alloc (.cells #[.int .i64 (k : Int)] 3)).heap.size = w.heap.size + 4 := by simp
  have HG0 := Lib.hid (HG.out _ k0)
  clear HG c0 c1 f1
  generalize ((((w.alloc (.cells #[.pointer (some ⟨p, 0, none⟩)] 71)).alloc (.cells #[.int .u32 0] 24)).alloc (.cells #[.int .i64 0] 33)).alloc (.cells #[.int .i64 (k : Int)] 3)) = W0 at *
  refine HG0.out.mono ?_
  rintro e w1 ⟨rfl, cur1, k1⟩
  skip
  have n0 : w.heap.size ≠ p := by omega
  have n1 : w.heap.size + 1 ≠ p := by omega
  have n2 : w.heap.size + 1 + 1 ≠ p := by omega
  have n3 : w.heap.size + 1 + 1 + 1 ≠ p := by omega
  replace q0 := q0.keeps k1 (by simp; omega)
  replace q1 := q1.keeps k1 (by simp; omega)
  replace q2 := q2.keeps k1 (by simp; omega)
  replace q3 := q3.keeps k1 (by simp; omega)
  replace k0 : Keeps w w1 [p] := (k0.mono (by simp)).trans k1 (fun j hj _ => hj)
  have hs1 := k1.size
  clear k1 HG0
  obtain ⟨x1, x2⟩ := q1.one
  obtain ⟨e1, e2⟩ := q2.one
  have NC := Lib.hid cur1
  clear cur1
  go_wp2_with fail
  have b1 : Blk ((w1.setCell ⟨w.heap.size + 1, 0, none⟩ ((.int .u32 x))).setCell ⟨w.heap.size + 1 + 1, 0, none⟩ (.int .i64 n)) (w.heap.size + 1) #[(.int .u32 x)] 24 := (q1.set 0 ((.int .u32 x))).setOther (by simp) _
  have b2 : Blk ((w1.setCell ⟨w.heap.size + 1, 0, none⟩ ((.int .u32 x))).setCell ⟨w.heap.size + 1 + 1, 0, none⟩ (.int .i64 n)) (w.heap.size + 1 + 1) #[.int .i64 n] 33 := (q2.setOther (by simp) _).set 0 (.int .i64 n)
  have b0 : Blk ((w1.setCell ⟨w.heap.size + 1, 0, none⟩ ((.int .u32 x))).setCell ⟨w.heap.size + 1 + 1, 0, none⟩ (.int .i64 n)) w.heap.size #[.pointer (some ⟨p, 0, none⟩)] 71 := (q0.setOther (by dsimp only; omega) _).setOther (by dsimp only; omega) _
  have b3 : Blk ((w1.setCell ⟨w.heap.size + 1, 0, none⟩ ((.int .u32 x))).setCell ⟨w.heap.size + 1 + 1, 0, none⟩ (.int .i64 n)) (w.heap.size + 1 + 1 + 1) #[.int .i64 (k : Int)] 3 := (q3.setOther (by dsimp only; omega) _).setOther (by dsimp only; omega) _
  have kk : Keeps w ((w1.setCell ⟨w.heap.size + 1, 0, none⟩ ((.int .u32 x))).setCell ⟨w.heap.size + 1 + 1, 0, none⟩ (.int .i64 n)) [p] := (k0.setCell (.inl (by dsimp only; omega)) _).setCell (.inl (by dsimp only; omega)) _
  have ks : Keeps w1 ((w1.setCell ⟨w.heap.size + 1, 0, none⟩ ((.int .u32 x))).setCell ⟨w.heap.size + 1 + 1, 0, none⟩ (.int .i64 n)) [w.heap.size + 1, w.heap.size + 1 + 1] := ((Keeps.refl w1 _).setCell (.inr (by simp)) _).setCell (.inr (by simp)) _
  have curA : Cur ((w1.setCell ⟨w.heap.size + 1, 0, none⟩ ((.int .u32 x))).setCell ⟨w.heap.size + 1 + 1, 0, none⟩ (.int .i64 n)) p v B k' := NC.out.keepsS ks (by simp; omega) (fun ad n' c he h0 hm => by have := HLV.out ad n' c he h0; simp at hm; omega)
  skip
  have sz : ((w1.setCell ⟨w.heap.size + 1, 0, none⟩ ((.int .u32 x))).setCell ⟨w.heap.size + 1 + 1, 0, none⟩ (.int .i64 n)).heap.size = w1.heap.size := by simp
  clear q0 q1 q2 q3 x1 x2 e1 e2 k0 NC ks
  refine leaves_cons (f := 155) (args := #[.pointer (some ⟨w.heap.size + 1 + 1, 0, none⟩), .pointer (some ⟨w.heap.size + 1 + 1 + 1, 0, none⟩), .pointer (some ⟨w.heap.size + 1, 0, none⟩), .pointer (some ⟨w.heap.size, 0, none⟩)]) (by simp) (by simp [go_sem]) ?_
  by_cases hn : n = 0
  · subst hn
    refine (backU32_ok _ _ _ _ _ _ b2).mono ?_
    rintro e u' w'' ⟨rfl, rfl, rfl⟩
    obtain ⟨x1, -⟩ := b1.one
    obtain ⟨e1, -⟩ := b2.one
    refine ⟨.tuple #[(.int .u32 x), .int .i64 0], by simp only [results, Tryz.results120]; go_simp, ?_⟩
    have g1 := HXO.out
    have g2 := HKO.out
    rw [if_pos rfl] at g1 g2
    subst g1 g2
    exact ⟨rfl, curA, kk⟩
  · have hn' : (n != 0) = true := by simp [hn]
    obtain ⟨cv, -⟩ : ∃ cv, cv = v := ⟨_, rfl⟩
    refine (backU32_bad _ _ _ _ p n k _ _ _ hn' _ _ b2 b3 b1 b0 curA.blk n1).mono ?_
    rintro e u' w'' ⟨rfl, rfl, rfl⟩
    have c1 : Blk ((((w1.setCell ⟨w.heap.size + 1, 0, none⟩ ((.int .u32 x))).setCell ⟨w.heap.size + 1 + 1, 0, none⟩ (.int .i64 n)).setCell ⟨w.heap.size + 1, 0, none⟩ (.int .u32 0)).setCell ⟨p, 1, none⟩ (.int .i64 (k : Int))) (w.heap.size + 1) #[.int .u32 0] 24 := (b1.set 0 (.int .u32 0)).setOther (by dsimp only; omega) _
    have c2 : Blk ((((w1.setCell ⟨w.heap.size + 1, 0, none⟩ ((.int .u32 x))).setCell ⟨w.heap.size + 1 + 1, 0, none⟩ (.int .i64 n)).setCell ⟨w.heap.size + 1, 0, none⟩ (.int .u32 0)).setCell ⟨p, 1, none⟩ (.int .i64 (k : Int))) (w.heap.size + 1 + 1) #[.int .i64 n] 33 := (b2.setOther (by dsimp only; omega) _).setOther (by dsimp only; omega) _
    have ks2 : Keeps ((w1.setCell ⟨w.heap.size + 1, 0, none⟩ ((.int .u32 x))).setCell ⟨w.heap.size + 1 + 1, 0, none⟩ (.int .i64 n)) (((w1.setCell ⟨w.heap.size + 1, 0, none⟩ ((.int .u32 x))).setCell ⟨w.heap.size + 1 + 1, 0, none⟩ (.int .i64 n)).setCell ⟨w.heap.size + 1, 0, none⟩ (.int .u32 0)) [w.heap.size + 1] := (Keeps.refl ((w1.setCell ⟨w.heap.size + 1, 0, none⟩ ((.int .u32 x))).setCell ⟨w.heap.size + 1 + 1, 0, none⟩ (.int .i64 n)) _).setCell (.inr (by simp)) _
    have curB : Cur ((((w1.setCell ⟨w.heap.size + 1, 0, none⟩ ((.int .u32 x))).setCell ⟨w.heap.size + 1 + 1, 0, none⟩ (.int .i64 n)).setCell ⟨w.heap.size + 1, 0, none⟩ (.int .u32 0)).setCell ⟨p, 1, none⟩ (.int .i64 (k : Int))) p v B k := (curA.keepsS ks2 (by simp; omega) (fun ad n' c he h0 hm => by have := HLV.out ad n' c he h0; simp at hm; omega)).set hkB.out
    have kf : Keeps w ((((w1.setCell ⟨w.heap.size + 1, 0, none⟩ ((.int .u32 x))).setCell ⟨w.heap.size + 1 + 1, 0, none⟩ (.int .i64 n)).setCell ⟨w.heap.size + 1, 0, none⟩ (.int .u32 0)).setCell ⟨p, 1, none⟩ (.int .i64 (k : Int))) [p] := (kk.setCell (.inl (by dsimp only; omega)) _).setCell (.inr (by simp)) _
    obtain ⟨x1, -⟩ := c1.one
    obtain ⟨e1, -⟩ := c2.one
    refine ⟨.tuple #[.int .u32 0, .int .i64 n], by simp only [results, Tryz.results120]; go_simp, ?_⟩
    have g1 := HXO.out
    have g2 := HKO.out
    rw [if_neg hn] at g1 g2
    subst g1 g2
    exact ⟨rfl, curB, kf⟩
end

section
set_option linter.unusedVariables false
set_option linter.unusedSimpArgs false
open Go.RowKit

/-- What has come when k rounds are over. -/
def upto {α : Type} (f : Nat → α) (k : Nat) : List α := (List.range k).map f
theorem upto_succ {α : Type} (f : Nat → α) (k : Nat) : upto f (k + 1) = upto f k ++ [f k] := by simp [upto, List.range_succ]
theorem upto_length {α : Type} (f : Nat → α) (k : Nat) : (upto f k).length = k := by simp [upto]
theorem upto_prefix {α : Type} (f : Nat → α) {k n : Nat} (h : k ≤ n) : upto f k <+: upto f n := by
  obtain ⟨m, rfl⟩ := Nat.le.dest h
  induction m with
  | zero => exact List.prefix_refl _
  | succ m ih =>
    rw [← Nat.add_assoc, upto_succ]
    exact (ih (Nat.le_add_right _ _)).trans (List.prefix_append _ _)
theorem upto_next {α : Type} {f : Nat → α} {k n : Nat} {x : α} (h : upto f k ++ [x] <+: upto f n) : k < n ∧ x = f k := by
  have hl := h.length_le
  simp only [List.length_append, upto_length, List.length_cons, List.length_nil] at hl
  refine ⟨by omega, ?_⟩
  have h2 : upto f k ++ [f k] <+: upto f n := by rw [← upto_succ]; exact upto_prefix f (by omega)
  have h3 := (List.prefix_iff_eq_take.1 h).trans ((by simp [upto_length]) : _ = List.take (upto f k ++ [f k]).length (upto f n))
  rw [← List.prefix_iff_eq_take.1 h2] at h3
  simpa using h3

abbrev encN (x : Nat × Int) : Array Value := #[.int .i64 (x.1 : Int), .int .i64 x.2]
abbrev itemN (l : List Int) (k : Nat) : Nat × Int := (k, (l[k]?).getD 0)

theorem Keeps.cellsAt {w w' : World} {C : List Nat} {b : Nat} (h : Keeps w w' C) (hb : b < w.heap.size) (hn : b ∉ C) {o : Nat} {v : Value} (hc : w.cell? ⟨b, o, none⟩ = some v) : w'.cell? ⟨b, o, none⟩ = some v :=
  (h.cell (p := ⟨b, o, none⟩) hb hn).trans hc

abbrev encP (x : Int × Int) : Array Value := #[.int .i64 x.1, .int .i64 x.2]
theorem Turn.below {X : World} {D : Nat} {o o' : Obj} (h : X.heap[D]? = some o) {B : Nat} (hB : B ≤ D) : Below B X (X.putObj D o') :=
  ⟨rfl, rfl, rfl, by simp, fun k hk => World.putObj_heap_other (by omega)⟩
end

section
set_option linter.unusedVariables false
set_option linter.unusedSimpArgs false
open Go.RowKit

attribute [local go_sem] Oper.semAt_some

abbrev encBB (x : Nat × Int) : Array Value := #[.int .i64 (x.1 : Int), .int .u8 x.2]
def backF (l : List Int) (j : Nat) : Nat × Int := (l.length - 1 - j, (l[l.length - 1 - j]?).getD 0)
def blocksOf : Value → List Nat
  | .slice (some a) n _ => if 0 < n then [a.block] else []
  | _ => []

theorem RdI.same {k : IntKind} {w w' : World} {v : Value} {l : List Int} (h : RdI k w v l) (hs : SameAt (blocksOf v) w w') : RdI k w' v l := by
  obtain ⟨a, n, c, rfl, h1, h2, h3⟩ := h.form
  refine ⟨a, n, c, rfl, h1, h2, fun h0 => ?_⟩
  obtain ⟨h4, b, o, rfl, h5, h6⟩ := h3 h0
  have hb : w'.heap[b]? = w.heap[b]? := hs b (by simp [blocksOf, h0])
  refine ⟨h4, b, o, rfl, ?_, fun i x hx => ?_⟩
  · rw [Array.getElem?_eq_getElem h5] at hb
    exact (Array.getElem?_eq_some_iff.1 hb).1
  · exact (World.cell?_of_block (a := ⟨b, o + i, none⟩) hb).trans (h6 i x hx)

set_option maxRecDepth 100000 in
set_option maxHeartbeats 2000000 in
theorem backY (Bs : Nat) (v : Value) (l : List Int) (w : World) (hBs : Blk w Bs #[v] 22) (hr : RdI .u8 w v l) (hn : l.length ≤ 1000000) :
    SeqY Tryz.prog 156 #[.pointer (some ⟨Bs, 0, none⟩)] encBB ([Bs] ++ blocksOf v) (fun _ => True)
      (fun ys => ys = upto (backF l) l.length) (fun pre => pre <+: upto (backF l) l.length) w := by
  intro lo J Jx W hW hJ hJx hY h0
  have hBs' : Blk W Bs #[v] 22 := (hW Bs (by simp)).trans hBs
  have hr' := hr.same (hW.mono (fun k hk => List.mem_append.2 (.inr hk)))
  obtain ⟨a, n, c, rfl, hnl, -⟩ := hr.form
  have HB := Lib.hid hBs'
  have HR := Lib.hid hr'
  have HN := Lib.hid hnl
  have HY := Lib.hid hY
  have hn' : n ≤ 1000000 := by omega
  obtain ⟨c0, -⟩ := hBs'.one
  have hwr : wrap64 ((n : Int) - 1) = (n : Int) - 1 := IntWalk.wrap64_in _ ⟨by omega, by omega⟩
  clear hBs hr hBs' hr' hnl hY hn hJ hJx hW
  refine callsIn_of_wp Tryz.func156 rfl trivial ?_ rfl
  simp only [Tryz.ntmps156, List.size_toArray, List.length_cons, List.length_nil, Nat.reduceAdd, Nat.reduceSub, Array.replicate_succ, Array.replicate_zero, List.push_toArray, List.append_toArray, List.nil_append, List.cons_append]
  gi_wp2
  gi_loopw [3] (fun i wr => ∃ k : Nat, k ≤ n ∧ i = .int .i64 ((n : Int) - 1 - (k : Int)) ∧ Hid (J (upto (backF l) k) wr) ∧ Hid (SameAt ([Bs] ++ blocksOf (.slice a n c)) W wr))
    (fun i _ => ((intOf i) + 1).toNat)
  case atStart => exact ⟨0, Nat.zero_le _, by simp, h0, SameAt.refl _ _⟩
  case round =>
    obtain ⟨k, hk, rfl, hJs, hs⟩ := hrel
    have b1 : Blk wr Bs #[.slice a n c] 22 := (hs.out Bs (by simp)).trans HB.out
    have r1 := HR.out.same (hs.out.mono (fun k hk => List.mem_append.2 (.inr hk)))
    obtain ⟨d0, -⟩ := b1.one
    by_cases hlt : k < n
    · obtain ⟨q, hq⟩ : ∃ q, q = n - 1 - k := ⟨_, rfl⟩
      have hqi : (n : Int) - 1 - (k : Int) = (q : Int) := by omega
      obtain ⟨x, hx⟩ : ∃ x, l[q]? = some x := ⟨_, List.getElem?_eq_getElem (by have := HN.out; omega)⟩
      obtain ⟨b, o, rfl, hb, e0⟩ := r1.at hx
      have hcap := r1.cap
      have hi : backF l k = (q, x) := by
        have : l.length - 1 - k = q := by have := HN.out; omega
        simp [backF, this, hx]
      have hyy := HY.out (upto (backF l) k) (backF l k) wr hJs.out trivial (by rw [← upto_succ]; exact upto_prefix _ (by have := HN.out; omega))
      rw [hi] at hyy
      obtain ⟨fn, tmps, assign, body, hy, hR⟩ := hyy
      dsimp only [encBB] at hy
      have hqn : (q : Int) < (n : Int) := by omega
      have hw1 : wrap64 ((q : Int) - 1) = (q : Int) - 1 := IntWalk.wrap64_in _ ⟨by omega, by omega⟩
      have HI := Lib.hid hi
      have HQ := Lib.hid hq
      rw [hqi]
      clear hx hi b1 r1 hq hqi
      gi_wp2
      refine (round_any hR).mono ?_
      rintro e W3 ⟨hk3, (⟨rfl, hJ3⟩ | ⟨rfl, hJx3⟩)⟩
      · gi_wp2
        refine ⟨⟨k + 1, by omega, ?_, ?_, hs.out.trans hk3⟩, ?_⟩
        · congr 1; have := HQ.out; omega
        · show J _ _
          rw [upto_succ, HI.out]; exact hJ3
        · simp only [intOf]; omega
      · gi_wp2
        refine bodyPost_ret (v := .tuple #[]) (by simp [results, Tryz.results156]) rfl ⟨⟨_, rfl⟩, .inr ⟨_, ?_, hJx3⟩⟩
        rw [← HI.out, ← upto_succ]
        exact upto_prefix _ (by have := HN.out; omega)
    · gi_wp2
      go_end0
      exact ⟨⟨_, rfl⟩, .inl ⟨_, by rw [show k = l.length by have := HN.out; omega], hJs.out⟩⟩
end

section
set_option linter.unusedVariables false
set_option linter.unusedSimpArgs false

/-- Behind a call the condition on the world may be chosen anew, and stronger. -/
theorem wpAnyH_stronger {P : Program} {md : Region.Mode} {ops : Array Oper} {Q : Exit → Act → World → Prop} {S S2 : World → Prop} (h : ∀ w, S2 w → S w) : ∀ {fuel : Nat} {listed : Array Bool} {a : Act} {w : World}, wpAnyH P md ops Q S2 fuel listed a w → wpAnyH P md ops Q S fuel listed a w
  | 0, _, _, _, hw => hw
  | fuel + 1, _, _, _, hw => ⟨hw.1, fun i hi => wpOp_mono (fun a' w' h' => ⟨h w' h'.1, wpAnyH_stronger h h'.2⟩) (hw.2 i hi)⟩

section
variable {P : Program} {md : Region.Mode} {os : List Oper} {Q : Exit → Act → World → Prop} {S : World → Prop}
theorem takeL {i : Nat} {oi : Oper} {v : Value} {fuel : Nat} {listed : Array Bool} {a : Act} {w : World} (hi : os[i]? = some oi)
    (hs : Region.noSelect os.toArray = true) (hf : Region.free md os.toArray listed i = true) (hr : (Region.ready md os.toArray listed).contains i = true)
    (hQ : ∀ c a w, Q (.panic c) (a.put oi.dst v) w → Q (.panic c) a w) (hw : Region.wanted oi (yielded os.toArray a.tmps) = true) (hy : ∀ w, S w → (execOp a.eval oi).run P w = .ok (.value v) w) (hS : S w)
    (h : wpAnyH P md os.toArray Q S fuel (listed.setIfInBounds i true) (a.put oi.dst v) w) : wpAnyH P md os.toArray Q S (fuel + 1) listed a w :=
  wpAnyH_take (by simpa using hi) hs hf hr hQ (Or.inl ⟨hw, hy⟩) hS h
theorem callL {i : Nat} {o : Oper} {fuel : Nat} {listed : Array Bool} {a : Act} {w : World} (hi : os[i]? = some o) (hr : Region.ready md os.toArray listed = [i])
    (h : ∀ K' : Act → World → Prop, Shut (∀ a w, S w → (S w → wpAnyH P md os.toArray Q S fuel (listed.setIfInBounds i true) a w) → K' a w) → if Region.wanted o (yielded os.toArray a.tmps) = true then Oper.wp P o a w K' Q else K' (a.put o.dst undef) w) :
    wpAnyH P md os.toArray Q S (fuel + 1) listed a w :=
  wpAnyH_ready hr (by simp) (AllReadyH.cons (by simpa using hi) h AllReadyH.nil)
end

/-- x[i:j] of a slice whose elements are one cell each: an equation for the walk. -/
theorem run_slice2 {P : Program} {t e : TypeId} (ht : P.underlying t = some (.slice e)) {i0 : TypeInfo} (hi : P.info? e = some i0) (h1 : i0.size = 1) {b o n c i j : Nat} {x y : Int} (hx : x = (i : Int)) (hy : y = (j : Int)) (hij : i ≤ j) (hjc : j ≤ c) (hic : i < c) (w : World) :
    (Instr.slice t (.slice (some ⟨b, o, none⟩) n c) (some (.int .i64 x)) (some (.int .i64 y)) none).run P w = .ok (.slice (some ⟨b, o + i, none⟩) (j - i) (c - i)) w := by
  subst hx hy
  have a3 : ¬ c = i := by omega
  simp [Instr.slice, Instr.sliceBounds, Instr.sliceBound, asIntOf, run_underlying ht, go_sem, sizeOf, typeInfo, hi, h1, hij, hjc, a3]
end

end Go.Proofs.YtcmagccfagijlaaGreat
