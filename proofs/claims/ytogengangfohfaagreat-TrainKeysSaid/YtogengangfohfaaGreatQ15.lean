/-
  The queue of train.Content in memory: a row of items, each in three cells.
  Walks over package train: the queue's methods.
  Walks over package train: an item is laid at the queue's end; the last item is taken away.
  Walks over package train: the last item is taken away.
  Walks over package train: two items of the queue change places.
  Walks: container/heap over the queue of package train.
-/
import Derived.Test.YtogengangfohfaaGreatQ9
import Derived.Test.YtogengangfohfaaGreatQ1
import Derived.Laws.OwnMore
import Derived.Test.YtogengangfohfaaGreatQ10
import Derived.Deep.RegionLaw
import Derived.Deep.RegionLawGrows
import Derived.Deep.AppendLies
import Derived.Test.YtogengangfohfaaGreatQ3
namespace Go.Proofs.YtogengangfohfaaGreat
section
set_option linter.unusedVariables false
set_option linter.unusedSimpArgs false
set_option linter.unusedSectionVars false
open Go.RowKit

/-- The pieces as values. -/
def PvOk (pv : Int → Value) : Prop := ∀ i, ∃ a n c, pv i = .slice a n c
section
variable (pv : Int → Value)
def rowQ (x : It) : List Value := [.int .i64 x.at', .int .i64 x.worth, pv x.at']
theorem rowQ_len : ∀ x, (rowQ pv x).length = 3 := fun _ => rfl
theorem rowQ_one (h : PvOk pv) : ∀ x, ∀ u ∈ rowQ pv x, u.oneCell' = true := fun x u hu => by
  obtain ⟨a, n, c, e⟩ := h x.at'
  simp [rowQ, e] at hu
  rcases hu with rfl | rfl | rfl <;> rfl
def RowQ (base : Nat) (w : World) (g n c : Nat) (q : List It) : Prop := q.length = n ∧ w.ownsRow base 98 3 (.slice (some ⟨g, 0, none⟩) n c) n (cellsW (rowQ pv) q)
end

section
variable {pv : Int → Value} {base : Nat} {w w' : World} {g n c : Nat} {q : List It}
theorem el_some {q : List It} {i : Nat} (h : i < q.length) : q[i]? = some (el q i) := by simp [el, List.getD_eq_getElem?_getD, h]
theorem RowQ.cap (h : RowQ pv base w g n c q) : n ≤ c := by
  rcases h.2.2 with ⟨h1, h2⟩ | ⟨g', cp, cur, h1, -, -, h4, -⟩
  · cases h1
  · cases h1; exact h4
theorem RowQ.lt (h : RowQ pv base w g n c q) : base ≤ g ∧ g < w.heap.size := h.2.lt g rfl
theorem RowQ.frozen (h : RowQ pv base w g n c q) (i : Nat) : w.frozen? ⟨g, i, none⟩ = false := h.2.frozenAt i
theorem RowQ.cells (h : RowQ pv base w g n c q) {i : Nat} (hi : i < n) :
    w.cell? ⟨g, i * 3, none⟩ = some (.int .i64 (el q i).at') ∧ w.cell? ⟨g, i * 3 + 1, none⟩ = some (.int .i64 (el q i).worth) ∧ w.cell? ⟨g, i * 3 + 2, none⟩ = some (pv (el q i).at') := by
  have hx := el_some (q := q) (i := i) (by rw [h.1]; exact hi)
  refine ⟨?_, ?_, ?_⟩
  · have := h.2.cellAt (i * 3) (by omega)
    rw [this]
    exact cellsW_get (rowQ_len pv) (j := 0) hx rfl
  · have := h.2.cellAt (i * 3 + 1) (by omega)
    rw [this]
    exact cellsW_get (rowQ_len pv) (j := 1) hx rfl
  · have := h.2.cellAt (i * 3 + 2) (by omega)
    rw [this]
    exact cellsW_get (rowQ_len pv) (j := 2) hx rfl
theorem RowQ.keeps {S : List Nat} (h : RowQ pv base w g n c q) (k : Keeps w w' S) (hn : g ∉ S) : RowQ pv base w' g n c q := by
  refine ⟨h.1, ?_⟩
  obtain ⟨h1, h2⟩ := h.2
  refine ⟨h1, ?_⟩
  rcases h2 with h2 | ⟨g', cp, cur, e, hg, hb, r⟩
  · exact .inl h2
  · cases e
    exact .inr ⟨g, c, cur, rfl, hg, (k.block g (Array.getElem?_eq_some_iff.1 hb).1 hn).trans hb, r⟩
theorem cellsQ_set : ∀ (q : List It) (i : Nat) (x : It), (((cellsW (rowQ pv) q).set (i * 3) (.int .i64 x.at')).set (i * 3 + 1) (.int .i64 x.worth)).set (i * 3 + 2) (pv x.at') = cellsW (rowQ pv) (q.set i x) := by
  intro q
  induction q with
  | nil => intro i x; simp [cellsW]
  | cons y q ih =>
    intro i x
    cases i with
    | zero => simp [cellsW, rowQ]
    | succ i =>
      have e0 : (i + 1) * 3 = i * 3 + 3 := by omega
      have := ih i x
      simp only [cellsW, rowQ, List.set_cons_succ, List.cons_append, List.nil_append, e0, show i * 3 + 3 + 1 = i * 3 + 1 + 3 by omega, show i * 3 + 3 + 2 = i * 3 + 2 + 3 by omega]
      simpa using this
theorem RowQ.set (h : RowQ pv base w g n c q) (i : Nat) (x : It) :
    RowQ pv base (((w.setCell ⟨g, i * 3, none⟩ (.int .i64 x.at')).setCell ⟨g, i * 3 + 1, none⟩ (.int .i64 x.worth)).setCell ⟨g, i * 3 + 2, none⟩ (pv x.at')) g n c (q.set i x) :=
  ⟨by rw [List.length_set]; exact h.1, by rw [← cellsQ_set]; exact (((h.2.stored (i * 3) _).1.stored (i * 3 + 1) _).1.stored (i * 3 + 2) _).1⟩
theorem cellsQ_take : ∀ (q : List It) (m : Nat), (cellsW (rowQ pv) q).take (m * 3) = cellsW (rowQ pv) (q.take m) := by
  intro q
  induction q with
  | nil => intro m; simp [cellsW]
  | cons y q ih =>
    intro m
    cases m with
    | zero => simp [cellsW]
    | succ m =>
      have := ih m
      simp only [cellsW, rowQ, List.take_succ_cons, List.cons_append, List.nil_append, show (m + 1) * 3 = m * 3 + 3 by omega] at *
      rw [this]
theorem RowQ.pop (h : RowQ pv base w g n c q) {m : Nat} (hm : m ≤ n) : RowQ pv base w g m c (q.take m) := by
  refine ⟨by rw [List.length_take, h.1]; omega, ?_⟩
  rcases h.2.2 with ⟨h1, h2⟩ | ⟨g', cp, cur, e, h2, h3, h4, h5, h6, h7⟩
  · cases h1
  · cases e
    refine ⟨by rw [cellsW_length (rowQ_len pv), List.length_take, h.1]; congr 1; omega, .inr ⟨g, c, cur, rfl, h2, h3, by omega, h5, h6, ?_⟩⟩
    rw [← cellsQ_take, ← h7, List.take_take]
    congr 1; omega
end

/-- Only blocks of Z have changed. -/
def KeepsZ (Z : Nat → Prop) (w w' : World) : Prop := ∃ S, Keeps w w' S ∧ ∀ k ∈ S, Z k
theorem KeepsZ.refl (Z : Nat → Prop) (w : World) : KeepsZ Z w w := ⟨[], Keeps.refl w [], fun _ h => by cases h⟩
theorem KeepsZ.of {Z : Nat → Prop} {w w' : World} {S : List Nat} (h : Keeps w w' S) (hS : ∀ k ∈ S, Z k) : KeepsZ Z w w' := ⟨S, h, hS⟩
theorem KeepsZ.trans {Z : Nat → Prop} {w w' w'' : World} (h : KeepsZ Z w w') (k : KeepsZ Z w' w'') : KeepsZ Z w w'' := by
  obtain ⟨S, h1, h2⟩ := h
  obtain ⟨S', k1, k2⟩ := k
  exact ⟨S ++ S', (h1.mono (fun x hx => List.mem_append.2 (.inl hx))).trans k1 (fun x hx _ => List.mem_append.2 (.inr hx)), fun x hx => by
    rcases List.mem_append.1 hx with hx | hx
    · exact h2 x hx
    · exact k2 x hx⟩
theorem KeepsZ.size {Z : Nat → Prop} {w w' : World} (h : KeepsZ Z w w') : w.heap.size ≤ w'.heap.size := by obtain ⟨S, h1, -⟩ := h; exact h1.size
theorem KeepsZ.blk {Z : Nat → Prop} {w w' : World} (h : KeepsZ Z w w') {b : Nat} {cs : Array Value} {T : TypeId} (hb : Blk w b cs T) (hn : ¬ Z b) : Blk w' b cs T := by
  obtain ⟨S, h1, h2⟩ := h
  exact hb.keeps h1 (fun hm => hn (h2 b hm))

/-- The queue at the cell p. -/
structure QAt (pv : Int → Value) (Z : Nat → Prop) (w : World) (p : Nat) (q : List It) : Prop where
  ex : ∃ g c, Blk w p #[.slice (some ⟨g, 0, none⟩) q.length c] 95 ∧ RowQ pv 0 w g q.length c q ∧ Z g
  zp : Z p
end

section
set_option linter.unusedVariables false
set_option linter.unusedSimpArgs false
set_option linter.unusedSectionVars false
open Go.RowKit

theorem qlen_any (a : Option Addr) (n c : Nat) (w : World) : Calls Tryz.prog 52 #[.slice a n c] w fun e w' => e = .returned (.int .i64 n) ∧ w = w' := by
  go_enter Tryz.func52, Tryz.ntmps52
  go_wp2
  go_ret
  exact ⟨rfl, rfl⟩

set_option maxRecDepth 100000 in
set_option maxHeartbeats 2000000 in
theorem less_any {b : Bool} (pv : Int → Value) (g n c i k : Nat) (q : List It) (w : World) (h : RowQ pv 0 w g n c q) (hn : n ≤ 1000000000) (hi : i < n) (hk : k < n) (hb : lessI (el q i) (el q k) = b) :
    Calls Tryz.prog 379 #[.slice (some ⟨g, 0, none⟩) n c, .int .i64 i, .int .i64 k] w fun e w' => e = .returned (.bool b) ∧ ∃ m, w' = w.drewN m := by
  subst hb
  obtain ⟨ci0, ci1, ci2⟩ := h.cells hi
  obtain ⟨ck0, ck1, ck2⟩ := h.cells hk
  have hcap := h.cap
  have hii : (i : Int) < (n : Int) := by omega
  have hkk : (k : Int) < (n : Int) := by omega
  generalize el q i = x at *
  generalize el q k = y at *
  obtain ⟨xa, xw, xl⟩ := x
  obtain ⟨ya, yw, yl⟩ := y
  dsimp only at ci0 ci1 ci2 ck0 ck1 ck2
  clear h ci2 ck2
  simp only [lessI]
  by_cases h1 : yw < xw
  · have e : (decide (xw > yw) || (decide (xw = yw) && decide (xa < ya))) = true := by simp [h1]
    rw [e]
    clear e
    go_enter Tryz.func379, Tryz.ntmps379
    go_wp2_with fail
    go_quiet (fail)
    go_wp2_with fail
    go_ret
    exact ⟨rfl, _, rfl⟩
  · have h1' : decide (yw < xw) = false := decide_eq_false h1
    by_cases h2 : xw = yw
    · subst h2
      by_cases h3 : xa < ya
      · have e : (decide (xw > xw) || (decide (xw = xw) && decide (xa < ya))) = true := by simp [h3]
        rw [e]
        clear e
        go_enter Tryz.func379, Tryz.ntmps379
        go_wp2_with fail
        go_quiet (fail)
        go_wp2_with fail
        go_ret
        exact ⟨rfl, _, rfl⟩
      · have h3' : decide (xa < ya) = false := decide_eq_false h3
        have e : (decide (xw > xw) || (decide (xw = xw) && decide (xa < ya))) = false := by simp [h3]
        rw [e]
        clear e
        go_enter Tryz.func379, Tryz.ntmps379
        go_wp2_with fail
        go_quiet (fail)
        go_wp2_with fail
        go_ret
        exact ⟨rfl, _, rfl⟩
    · have h2' : (xw == yw) = false := by simpa using h2
      have e : (decide (xw > yw) || (decide (xw = yw) && decide (xa < ya))) = false := by simp [h1, h2]
      rw [e]
      clear e
      go_enter Tryz.func379, Tryz.ntmps379
      go_wp2_with fail
      go_quiet (fail)
      go_wp2_with fail
      go_ret
      exact ⟨rfl, _, rfl⟩
end

section
set_option linter.unusedVariables false
set_option linter.unusedSimpArgs false
set_option linter.unusedSectionVars false
open Go.RowKit

theorem Tryz.infoItem : (Tryz.prog.info? 98).map (fun i => (i.zero, i.size, i.bytes)) = some (some (.agg #[.int .i64 0, .int .i64 0, .slice none 0 0]), 3, 40) := by kernel_rfl

theorem qpush_fin {pv : Int → Value} {Z : Nat → Prop} {p g c g2 c2 : Nat} {q : List It} {x : It} {w w2 : World} {a1 : Option Addr} {n1 c1 : Nat} (e1 : pv x.at' = .slice a1 n1 c1) (bp : Blk w p #[.slice (some ⟨g, 0, none⟩) q.length c] 95) (hpg : p ≠ g) (zg : Z g) (zp : Z p) (hZ : ∀ k, w.heap.size ≤ k → Z k)
    (own2 : w2.ownsRow 0 98 3 (.slice (some ⟨g2, 0, none⟩) (q.length + 1) c2) (q.length + 1) (cellsW (rowQ pv) q ++ [.int .i64 x.at', .int .i64 x.worth, .slice a1 n1 c1])) (kk2 : Keeps w w2 [g]) (at2 : (Value.slice (some ⟨g, 0, none⟩) q.length c).ownBlock = some g2 ∨ g2 = w.heap.size + 2) :
    QAt pv Z (w2.setCell ⟨p, 0, none⟩ (.slice (some ⟨g2, 0, none⟩) (q.length + 1) c2)) p (q ++ [x]) ∧ KeepsZ Z w (w2.setCell ⟨p, 0, none⟩ (.slice (some ⟨g2, 0, none⟩) (q.length + 1) c2)) := by
  have bp2 := bp.keeps kk2 (fun hm => hpg (List.mem_singleton.1 hm))
  have z2 : Z g2 := by
    rcases at2 with h | h
    · cases h; exact zg
    · exact hZ g2 (by omega)
  have hpg2 : p ≠ g2 := fun e => by subst e; exact own_neO own2 bp2 (fun cs h => by cases h) rfl
  have ks : Keeps w2 (w2.setCell ⟨p, 0, none⟩ (.slice (some ⟨g2, 0, none⟩) (q.length + 1) c2)) [p] := (Keeps.refl w2 [p]).setCell (.inr (by simp)) _
  refine ⟨⟨⟨g2, c2, ?_, ⟨by simp, ?_⟩, z2⟩, zp⟩, (KeepsZ.of kk2 (fun k hk => by rw [List.mem_singleton.1 hk]; exact zg)).trans (KeepsZ.of ks (fun k hk => by rw [List.mem_singleton.1 hk]; exact zp))⟩
  · have := bp2.set 0 (.slice (some ⟨g2, 0, none⟩) (q.length + 1) c2)
    simpa using this
  · rw [List.length_append, cellsW_append (rowQ_len pv)]
    have e2 : cellsW (rowQ pv) [x] = [.int .i64 x.at', .int .i64 x.worth, .slice a1 n1 c1] := by simp [cellsW, rowQ, e1]
    rw [e2]
    exact own_moveO own2 (fun k hk => by cases hk; exact ks.block g2 (World.ownsRow.lt own2 g2 rfl).2 (by simp; exact fun e => hpg2 e.symm))

set_option maxRecDepth 100000 in
set_option maxHeartbeats 2000000 in
theorem qpush_any (pv : Int → Value) (Z : Nat → Prop) (p : Nat) (q : List It) (x : It) (w : World) (h : QAt pv Z w p q) (hZ : ∀ k, w.heap.size ≤ k → Z k) (hpv : PvOk pv) (hn : q.length ≤ 1000000000) :
    Calls Tryz.prog 381 #[.pointer (some ⟨p, 0, none⟩), .iface 98 (.agg #[.int .i64 x.at', .int .i64 x.worth, pv x.at'])] w fun e w' => e = .returned (.tuple #[]) ∧ QAt pv Z w' p (q ++ [x]) ∧ KeepsZ Z w w' := by
  obtain ⟨j0, hj0, yz0, yz1, yz2⟩ := info_parts Tryz.infoItem
  obtain ⟨⟨g, c, bp, rq, zg⟩, zp⟩ := h
  obtain ⟨xa, xw, xl⟩ := x
  obtain ⟨a1, n1, c1, e1⟩ := hpv xa
  dsimp only
  rw [e1]
  have HE1 := Lib.hid e1
  obtain ⟨cp0, cp1⟩ := bp.one
  have hlp := bp.lt
  clear e1
  have hta : ∀ v w, (Instr.typeAssert (.iface 98 v) 20 98 true).run Tryz.prog w = .ok (.tuple #[v, .bool true]) w := fun _ _ => by kernel_rfl
  have ROW := Lib.hid rq.2
  have HLT := Lib.hid rq.lt.2
  have hpg : p ≠ g := fun e => by subst e; exact own_neO rq.2 bp (fun cs h => by cases h) rfl
  have HPG := Lib.hid hpg
  have BP := Lib.hid bp
  clear rq bp hpg
  go_enter Tryz.func381, Tryz.ntmps381
  go_wp2_with fail
  go_region_law (refine step_append_lies _ rfl (.tmp 15) (.tmp 17) 95 rfl 0 98 j0 (.agg #[.int .i64 0, .int .i64 0, .slice none 0 0]) 3 40 Tryz.underlying95 hj0 yz0 yz1 yz2 rfl (by decide) (.slice (some ⟨g, 0, none⟩) q.length c) q.length (cellsW (rowQ pv) q) (by simp [Act.eval, Act.put]) (own_keeps ROW.out ((((Keeps.refl w []).alloc _).alloc _).drew)) ⟨w.heap.size + 1, 0, none⟩ 1 1 [.int .i64 xa, .int .i64 xw, .slice a1 n1 c1] (by simp [Act.eval, Act.put]) rfl (World.news_of_block (Blk.drew (Blk.newA (w := w.alloc (.cells #[.int .i64 xa, .int .i64 xw, .slice a1 n1 c1] 98)) (cs := #[.int .i64 xa, .int .i64 xw, .slice a1 n1 c1]) (T := 98) (b := w.heap.size + 1) (by simp)))) (by simp [Value.oneCell']) (by decide) (by unfold maxLen; omega) (by omega) (Nat.zero_le _) (w.heap.size + 2) (by simp) ?_; intro g2 c2 w2 own2 gr2 at2 lt2; have kk2 : Keeps w w2 [g] := (((((Keeps.refl w [g]).alloc _).alloc _).drew).trans (Keeps.of_grown (S := [g]) gr2 (fun k hk => by cases hk; simp)) (fun j hj _ => hj)); obtain ⟨dp0, dp1⟩ := (BP.out.keeps kk2 (fun hm => HPG.out (List.mem_singleton.1 hm))).one)
  all_goals
    have fin := qpush_fin (x := ⟨xa, xw, xl⟩) HE1.out BP.out HPG.out zg zp hZ own2 kk2 at2
    go_end0
    exact ⟨rfl, fin⟩
end

section
set_option linter.unusedVariables false
set_option linter.unusedSimpArgs false
set_option linter.unusedSectionVars false
open Go.RowKit

theorem run_sliceHi {P : Program} {t e : TypeId} (ht : P.underlying t = some (.slice e)) {i0 : TypeInfo} (hi : P.info? e = some i0) {ad : Addr} {n c j : Nat} {y : Int} (hy : y = (j : Int)) (hjc : j ≤ c) (w : World) :
    (Instr.slice t (.slice (some ad) n c) none (some (.int .i64 y)) none).run P w = .ok (.slice (some ad) j c) w := by
  subst hy
  by_cases hc : c = 0
  · subst hc
    obtain rfl : j = 0 := by omega
    simp [Instr.slice, Instr.sliceBounds, Instr.sliceBound, asIntOf, run_underlying ht, go_sem, sizeOf, typeInfo, hi]
  · simp [Instr.slice, Instr.sliceBounds, Instr.sliceBound, asIntOf, run_underlying ht, go_sem, sizeOf, typeInfo, hi, hjc, hc]

set_option maxRecDepth 100000 in
set_option maxHeartbeats 2000000 in
theorem qpop_any (pv : Int → Value) (Z : Nat → Prop) (p N : Nat) (q : List It) (x : It) (w : World) (h : QAt pv Z w p q) (hpv : PvOk pv) (hl : q.length = N + 1) (hx : el q N = x) (hn : N ≤ 1000000000) :
    Calls Tryz.prog 380 #[.pointer (some ⟨p, 0, none⟩)] w fun e w' => e = .returned (.iface 98 (.agg #[.int .i64 x.at', .int .i64 x.worth, pv x.at'])) ∧ QAt pv Z w' p (q.take N) ∧ KeepsZ Z w w' := by
  obtain ⟨j0, hj0, yz0, yz1, yz2⟩ := info_parts Tryz.infoItem
  obtain ⟨⟨g, c, bp, rq, zg⟩, zp⟩ := h
  rw [hl] at bp rq
  obtain ⟨cl0, cl1, cl2⟩ := rq.cells (i := N) (by omega)
  rw [hx] at cl0 cl1 cl2
  obtain ⟨xa, xw, xl⟩ := x
  obtain ⟨a1, n1, c1, e1⟩ := hpv xa
  dsimp only at cl0 cl1 cl2 ⊢
  rw [e1] at cl2
  rw [e1]
  obtain ⟨cp0, cp1⟩ := bp.one
  have hlp := bp.lt
  have hlg := rq.lt.2
  have hcap := rq.cap
  have hpg : p ≠ g := fun e => by subst e; exact own_neO rq.2 bp (fun cs h => by cases h) rfl
  have hwr : IntKind.i64.wrap (((N + 1 : Nat) : Int) - 1) = (N : Int) := by rw [show ((N + 1 : Nat) : Int) - 1 = (N : Int) by omega]; exact IntWalk.i64_in _ (by omega)
  have hsl := fun w => run_sliceHi (P := Tryz.prog) Tryz.underlying95 hj0 (ad := ⟨g, 0, none⟩) (n := N + 1) (c := c) (j := N) (y := (N : Int)) rfl (by omega) w
  have BP := Lib.hid bp
  have RQ := Lib.hid rq
  have HPG := Lib.hid hpg
  have HL := Lib.hid hl
  clear hx e1 bp rq hpg hl
  go_enter Tryz.func380, Tryz.ntmps380
  go_wp2_with fail
  go_region
  go_wp2_with fail
  go_region
  go_wp2_with fail
  go_ret
  have ks : Keeps w (w.setCell ⟨p, 0, none⟩ (.slice (some ⟨g, 0, none⟩) N c)) [p] := (Keeps.refl w [p]).setCell (.inr (by simp)) _
  have k2 : Keeps w (((w.setCell ⟨p, 0, none⟩ (.slice (some ⟨g, 0, none⟩) N c)).alloc (.cells #[.int .i64 xa, .int .i64 xw, .slice a1 n1 c1] 98)).drew.drew) [p] := ((ks.alloc _).drew).drew
  have bp1 : Blk (w.setCell ⟨p, 0, none⟩ (.slice (some ⟨g, 0, none⟩) N c)) p #[.slice (some ⟨g, 0, none⟩) N c] 95 := by
    have := BP.out.set 0 (.slice (some ⟨g, 0, none⟩) N c)
    simpa using this
  have hN : (q.take N).length = N := by rw [List.length_take, HL.out]; omega
  refine ⟨rfl, ⟨⟨g, c, ?_, ?_, zg⟩, zp⟩, KeepsZ.of k2 (fun k hk => by rw [List.mem_singleton.1 hk]; exact zp)⟩
  · rw [hN]
    exact ((bp1.alloc _).drew).drew
  · rw [hN]
    exact (RQ.out.pop (Nat.le_succ N)).keeps k2 (fun hm => HPG.out (List.mem_singleton.1 hm).symm)
end

section
set_option linter.unusedVariables false
set_option linter.unusedSimpArgs false
set_option linter.unusedSectionVars false
open Go.RowKit

set_option maxRecDepth 100000 in
set_option maxHeartbeats 2000000 in
theorem swap_any (pv : Int → Value) (g n c i k : Nat) (q : List It) (w : World) (h : RowQ pv 0 w g n c q) (hpv : PvOk pv) (hn : n ≤ 1000000000) (hi : i < n) (hk : k < n) :
    Calls Tryz.prog 382 #[.slice (some ⟨g, 0, none⟩) n c, .int .i64 i, .int .i64 k] w fun e w' => e = .returned (.tuple #[]) ∧ RowQ pv 0 w' g n c (swp q i k) ∧ Keeps w w' [g] := by
  obtain ⟨ci0, ci1, ci2⟩ := h.cells hi
  obtain ⟨ck0, ck1, ck2⟩ := h.cells hk
  have hcap := h.cap
  have hii : (i : Int) < (n : Int) := by omega
  have hkk : (k : Int) < (n : Int) := by omega
  have fi0 := h.frozen (i * 3)
  have fi1 := h.frozen (i * 3 + 1)
  have fi2 := h.frozen (i * 3 + 2)
  have fk0 := h.frozen (k * 3)
  have fk1 := h.frozen (k * 3 + 1)
  have fk2 := h.frozen (k * 3 + 2)
  have hl := h.lt.2
  have H : Hid (∀ x y : It, RowQ pv 0 ((((((w.setCell ⟨g, i * 3, none⟩ (.int .i64 x.at')).setCell ⟨g, i * 3 + 1, none⟩ (.int .i64 x.worth)).setCell ⟨g, i * 3 + 2, none⟩ (pv x.at')).setCell ⟨g, k * 3, none⟩ (.int .i64 y.at')).setCell ⟨g, k * 3 + 1, none⟩ (.int .i64 y.worth)).setCell ⟨g, k * 3 + 2, none⟩ (pv y.at')) g n c ((q.set i x).set k y)) := fun x y => (h.set i x).set k y
  have HE : Hid (swp q i k = (q.set i (el q k)).set k (el q i)) := rfl
  generalize el q i = x at *
  generalize el q k = y at *
  obtain ⟨xa, xw, xl⟩ := x
  obtain ⟨ya, yw, yl⟩ := y
  dsimp only at ci0 ci1 ci2 ck0 ck1 ck2
  obtain ⟨a1, n1, c1, e1⟩ := hpv xa
  obtain ⟨a2, n2, c2, e2⟩ := hpv ya
  rw [e1] at ci2
  rw [e2] at ck2
  clear h
  have fin : ∀ w', (w' = (((((w.setCell ⟨g, i * 3, none⟩ (.int .i64 ya)).setCell ⟨g, i * 3 + 1, none⟩ (.int .i64 yw)).setCell ⟨g, i * 3 + 2, none⟩ (.slice a2 n2 c2)).setCell ⟨g, k * 3, none⟩ (.int .i64 xa)).setCell ⟨g, k * 3 + 1, none⟩ (.int .i64 xw)).setCell ⟨g, k * 3 + 2, none⟩ (.slice a1 n1 c1)) → ∀ m, RowQ pv 0 (w'.drewN m) g n c (swp q i k) ∧ Keeps w (w'.drewN m) [g] := fun w' e m => by
    subst e
    have h := H.out ⟨ya, yw, yl⟩ ⟨xa, xw, xl⟩
    dsimp only at h
    rw [e1, e2] at h
    refine ⟨?_, ?_⟩
    · rw [HE.out]
      exact RowQ.keeps h ((Keeps.refl _ []).drewN m) (by simp)
    · refine Keeps.drewN ?_ m
      repeat (first | exact Keeps.refl _ _ | refine Keeps.setCell' (.inr (by simp)) ?_)
  have FIN := Lib.hid fin
  clear fin e1 e2 H HE
  by_cases hik : i = k
  · subst hik
    rw [ci0] at ck0
    cases ck0
    rw [ci1] at ck1
    cases ck1
    rw [ci2] at ck2
    cases ck2
    have n01 : i * 3 ≠ i * 3 + 1 := by omega
    have n02 : i * 3 ≠ i * 3 + 2 := by omega
    have n12 : i * 3 + 1 ≠ i * 3 + 2 := by omega
    go_enter Tryz.func382, Tryz.ntmps382
    go_wp2_with fail
    go_region
    go_end0
    exact ⟨rfl, FIN.out _ rfl 1⟩
  · have n00 : ¬ i * 3 = k * 3 := by omega
    have n01 : ¬ i * 3 = k * 3 + 1 := by omega
    have n02 : ¬ i * 3 = k * 3 + 2 := by omega
    have n10 : ¬ i * 3 + 1 = k * 3 := by omega
    have n11 : ¬ i * 3 + 1 = k * 3 + 1 := by omega
    have n12 : ¬ i * 3 + 1 = k * 3 + 2 := by omega
    have n20 : ¬ i * 3 + 2 = k * 3 := by omega
    have n21 : ¬ i * 3 + 2 = k * 3 + 1 := by omega
    have n22 : ¬ i * 3 + 2 = k * 3 + 2 := by omega
    go_enter Tryz.func382, Tryz.ntmps382
    go_wp2_with fail
    go_region
    go_end0
    exact ⟨rfl, FIN.out _ rfl 1⟩
end

section
set_option linter.unusedVariables false
set_option linter.unusedSimpArgs false
set_option linter.unusedSectionVars false
open Go.RowKit

theorem Tryz.methPush (p : Addr) (w : World) : (method 570 93 (.pointer (some p)) "Push").run Tryz.prog w = .ok (381, .pointer (some p)) w := by kernel_rfl
theorem Tryz.methPop (p : Addr) (w : World) : (method 570 93 (.pointer (some p)) "Pop").run Tryz.prog w = .ok (380, .pointer (some p)) w := by kernel_rfl
theorem meth_parts {P : Program} {t : TypeId} {name : String} {f : FuncId} {b : Bool} (h : ((P.info? t).bind fun i => i.methods.find? (·.name == name)).map (fun m => (m.path.toList, m.path.isEmpty, m.func)) = some ([], true, some (f, b))) :
    ∃ i m, P.info? t = some i ∧ i.methods.find? (·.name == name) = some m ∧ m.path.isEmpty = true ∧ m.path.toList = [] ∧ m.func = some (f, b) := by
  obtain ⟨m, hm, e⟩ := Option.map_eq_some_iff.1 h
  obtain ⟨i, hi, h2⟩ := Option.bind_eq_some_iff.1 hm
  simp only [Prod.mk.injEq] at e
  exact ⟨i, m, hi, h2, e.2.1, e.1, e.2.2⟩
theorem ssa_run {P : Program} (xt ty : TypeId) (p : Addr) (n m : String) (w : World) : (Builtin.ssaWrapNilChk_ #[xt] ty #[.pointer (some p), strVal n, strVal m]).run P w = .ok (.pointer (some p)) w := rfl
theorem meth_load {P : Program} {t e : TypeId} {name : String} {f : FuncId} {fuel : Nat} (h : ((P.info? t).bind fun i => i.methods.find? (·.name == name)).map (fun m => (m.path.toList, m.path.isEmpty, m.func)) = some ([], true, some (f, false))) (ht : P.underlying t = some (.pointer e))
    (hA : ∀ w, (isAgg e).run P w = .ok false w) {p : Addr} {v : Value} {w : World} (hc : w.cell? p = some v) : (method (fuel + 1) t (.pointer (some p)) name).run P w = .ok (f, v) w := by
  obtain ⟨i, m, h1, h2, h3, h4, h5⟩ := meth_parts h
  have h6 : m.path = #[] := by simpa using h4
  rw [method]
  simp [typeInfo, h1, h2, h6, h5, follow, receiverAt, run_underlying ht, Place.get, ssa_run, asAddr, loadVar, hA, go_sem, hc]
theorem Tryz.methLess (p : Addr) (v : Value) (w : World) (h : w.cell? p = some v) : (method 570 93 (.pointer (some p)) "Less").run Tryz.prog w = .ok (379, v) w :=
  meth_load (by kernel_rfl) Tryz.underlying93 (fun w => by kernel_rfl) h
theorem Tryz.methSwap (p : Addr) (v : Value) (w : World) (h : w.cell? p = some v) : (method 570 93 (.pointer (some p)) "Swap").run Tryz.prog w = .ok (382, v) w :=
  meth_load (by kernel_rfl) Tryz.underlying93 (fun w => by kernel_rfl) h
theorem Tryz.methLen (p : Addr) (v : Value) (w : World) (h : w.cell? p = some v) : (method 570 93 (.pointer (some p)) "Len").run Tryz.prog w = .ok (52, v) w :=
  meth_load (by kernel_rfl) Tryz.underlying93 (fun w => by kernel_rfl) h

abbrev ifQ (p : Nat) : Value := .iface 93 (.pointer (some ⟨p, 0, none⟩))
/-- How a walk over the heap ends. -/
def HpEnd (pv : Int → Value) (Z : Nat → Prop) (w : World) (p n : Nat) (q : List It) (w' : World) : Prop := ∃ q', q'.Perm q ∧ HeapN q' n ∧ QAt pv Z w' p q' ∧ KeepsZ Z w w'

set_option maxRecDepth 100000 in
set_option maxHeartbeats 2000000 in
theorem up_any (pv : Int → Value) (Z : Nat → Prop) (p j : Nat) (q : List It) (w : World) (h : QAt pv Z w p q) (hpv : PvOk pv) (hu : UpI q q.length j) (hj : j < q.length) (hn : q.length ≤ 1000000000) :
    Calls Tryz.prog 105 #[ifQ p, .int .i64 j] w fun e w' => e = .returned (.tuple #[]) ∧ HpEnd pv Z w p q.length q w' := by
  have H := Lib.hid h
  have HU := Lib.hid hu
  clear h hu
  go_enter Tryz.func105, Tryz.ntmps105
  go_wp2_with fail
  go_loopw [1] (fun s1 wr => ∃ (j : Nat) (q' : List It), s1 = .int .i64 j ∧ j < q.length ∧ Hid (q'.Perm q) ∧ Hid (UpI q' q.length j) ∧ QAt pv Z wr p q' ∧ KeepsZ Z w wr) (fun s1 _ => (intOf s1).toNat)
  case atStart => exact ⟨j, q, rfl, hj, List.Perm.refl q, HU.out, H.out, KeepsZ.refl Z w⟩
  case round =>
    obtain ⟨j, q', rfl, hj, hp, hup, hq, kz⟩ := hrel
    obtain ⟨⟨g, c, bp, rq, zg⟩, zp⟩ := hq
    obtain ⟨cp0, cp1⟩ := bp.one
    have hlen := hp.out.length_eq
    rw [hlen] at rq cp0 bp
    have hmL := Tryz.methLess ⟨p, 0, none⟩ _ wr cp0
    have hmS := Tryz.methSwap ⟨p, 0, none⟩ _ wr cp0
    have HQ := Lib.hid rq
    have HP := Lib.hid bp
    clear rq bp
    by_cases h0 : j = 0
    · subst h0
      go_wp2_with fail
      go_end0
      have hh : HeapN q' q.length := up_root hup.out
      exact ⟨rfl, q', hp.out, hh, ⟨⟨g, c, by rw [hlen]; exact HP.out, by rw [hlen]; exact HQ.out, zg⟩, zp⟩, kz⟩
    · obtain ⟨i, hi⟩ : ∃ i, i = par j := ⟨_, rfl⟩
      have hi2 : i = (j - 1) / 2 := hi
      have hd : Hid (((j : Int) - 1) / 2 = (i : Int)) := by show _ = _; omega
      have hd2 : ((((j : Int) - 1) / 2 : Int) == (j : Int)) = false := by simp; omega
      have hij : i < j := by omega
      have h1j : (1 : Int) ≤ (j : Int) := by omega
      have HI := Lib.hid hi
      obtain ⟨b, hb⟩ : ∃ b, lessI (el q' j) (el q' i) = b := ⟨_, rfl⟩
      have HB := Lib.hid hb
      have HLEN := Lib.hid hlen
      clear hi hi2 hb hlen
      go_wp2_with fail
      rw [hd.out]
      clear hd2
      refine (less_any pv g q.length c j i q' wr HQ.out hn hj (by omega) HB.out).mono ?_
      rintro e w2 ⟨rfl, m, rfl⟩
      clear hmL hmS
      cases b
      · go_wp2_with fail
        go_end0
        have hl := HB.out
        rw [HI.out] at hl
        have hh : HeapN q' q.length := up_stop hup.out hl
        have k2 : Keeps wr (wr.drewN m) [] := (Keeps.refl wr []).drewN m
        exact ⟨rfl, q', hp.out, hh, ⟨⟨g, c, by rw [HLEN.out]; exact HP.out.drewN m, by rw [HLEN.out]; exact HQ.out.keeps k2 (by simp), zg⟩, zp⟩, kz.trans (KeepsZ.of k2 (fun k hk => by cases hk))⟩
      · have hmS := Tryz.methSwap ⟨p, 0, none⟩ _ (wr.drewN m) cp0
        have k2 : Keeps wr (wr.drewN m) [] := (Keeps.refl wr []).drewN m
        have HQ2 := Lib.hid (HQ.out.keeps k2 (by simp))
        have hpg : Hid (p ≠ g) := fun e => by subst e; exact own_neO HQ.out.2 HP.out (fun cs h => by cases h) rfl
        go_wp2_with fail
        refine (swap_any pv g q.length c i j q' _ HQ2.out hpv hn (by omega) hj).mono ?_
        rintro e w3 ⟨rfl, rq3, k3⟩
        clear hmS
        have HQ3 := Lib.hid rq3
        have bp3 : Blk w3 p #[.slice (some ⟨g, 0, none⟩) q.length c] 95 := (HP.out.drewN m).keeps k3 (fun hm => hpg.out (List.mem_singleton.1 hm))
        have hl3 : (swp q' i j).length = q.length := by rw [swp_len]; exact HLEN.out
        have hp3 : Hid ((swp q' i j).Perm q) := (swp_perm (by rw [HLEN.out]; omega) (by rw [HLEN.out]; exact hj)).trans hp.out
        have hu3 : Hid (UpI (swp q' i j) q.length i) := by
          have hl := HB.out
          rw [HI.out] at hl
          have h := up_step hup.out (by rw [HLEN.out]; exact Nat.le_refl _) hj (by omega) hl
          rw [← HI.out] at h
          exact h
        have qa3 : QAt pv Z w3 p (swp q' i j) := ⟨⟨g, c, by rw [hl3]; exact bp3, by rw [hl3]; exact HQ3.out, zg⟩, zp⟩
        have kz3 : KeepsZ Z w w3 := (kz.trans (KeepsZ.of k2 (fun k hk => by cases hk))).trans (KeepsZ.of k3 (fun k hk => by rw [List.mem_singleton.1 hk]; exact zg))
        clear rq3 k3 bp3 hl3
        go_wp2_with fail
        go_roundw
        case rel => exact ⟨i, swp q' i j, rfl, by omega, hp3, hu3, qa3, kz3⟩
        case measure => simp [intOf]; omega
end

end Go.Proofs.YtogengangfohfaaGreat
