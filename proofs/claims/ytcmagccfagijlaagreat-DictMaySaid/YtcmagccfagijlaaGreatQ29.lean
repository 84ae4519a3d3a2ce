/-
  Deep copies: the reference's own of a table, Own of a context; the law's own. (Printed by mkDX.py.)
-/
import Derived.Test.YtcmagccfagijlaaGreatQ22
import Derived.Test.YtcmagccfagijlaaGreatQ28
namespace Go.Proofs.YtcmagccfagijlaaGreat
set_option linter.unusedVariables false
set_option linter.unusedSimpArgs false
set_option linter.unusedSectionVars false
open Go.RowKit

/-- A whole struct is stored into a block, as a step of a drawn region. -/
theorem step_store_blk {P : Program} {ops : Array Oper} {o : Oper} {a : Act} {w : World} {K : Act → World → Prop} {Q : Exit → Act → World → Prop} {E : Prop} (hgd : o.guard = none) (ty : TypeId) (x y : Operand) (ho : o.op = .store ty x y)
    (g : Nat) (cells : Array Value) (hx : a.eval x = .pointer (some ⟨g, 0, none⟩)) (hy : a.eval y = .agg cells) (t : TypeId) (old : Array Value) (hb : Blk w g old t) (hi : (P.info? ty).map (·.size) = some cells.size)
    (hold : old.size = cells.size) (h1 : cells.all (·.oneCell') = true) (h : ∀ W, Blk W g cells t → Keeps w W [g] → K (a.put o.dst undef) W) :
    if Region.wanted o (yielded ops a.tmps) = true then Oper.wp P o a w K Q else E := by
  have hw : Region.wanted o (yielded ops a.tmps) = true := by simp [Region.wanted, hgd]
  rw [if_pos hw]
  exact wp_store_row ty x y ho g cells hx hy t old hb hi hold h1 (h _ (setRow_heap w g old cells t (0, 0) hb) keeps_setRow)

theorem RdI.past {k : IntKind} {w w' : World} {v : Value} {l : List Int} {b g : Nat} (h : RdI k w v l) (hf : Fresh b v) (kk : Keeps w w' [g]) (hg : g < b) : RdI k w' v l :=
  h.keepsS kk (fun ad n cp e _ hm => by have := hf ad n cp e; simp at hm; omega)
theorem own_freshI {w : World} {base : Nat} {e : TypeId} {v : Value} {n : Nat} {xs : List Value} (h : w.ownsRow base e 1 v n xs) : Fresh base v := fun ad n c e => by
  subst e
  exact (h.lt ad.block rfl).1
theorem tbl_size : (Tryz.prog.info? 27).map (·.size) = some 2 := by kernel_rfl
theorem load_tbl {w : World} {b : Nat} {cs : Array Value} (h : Blk w b cs 27) (hs : cs.size = 2) : (loadVar 27 ⟨b, 0, none⟩).run Tryz.prog w = .ok (.agg cs) w :=
  load_blk h Tryz.underlying27 rfl (by rw [tbl_size, hs])
theorem tbl_cells {w : World} {p : Nat} {u v : Value} {T : TypeId} (h : Blk w p #[u, v] T) : w.cell? ⟨p, 0, none⟩ = some u ∧ w.cell? ⟨p, 1, none⟩ = some v := ⟨h.cell 0, h.cell 1⟩
theorem three_rep {w : World} {p : Nat} {v0 v1 v2 v3 v4 v5 v6 v7 v8 v9 : Value} {T : TypeId} (h : Blk w p #[v0, v1, v2, v3, v4, v5, v6, v7, v8, v9] T) : w.rangeAt p 7 [v7, v8, v9] :=
  h.range 7 _ (fun j v hv => by match j, hv with | 0, hv => exact hv | 1, hv => exact hv | 2, hv => exact hv)

set_option maxRecDepth 100000 in
set_option maxHeartbeats 2000000 in
theorem rtown_any (g : Int) (v : Value) (l : List Int) (w : World) (hv : RdI .i64 w v l) (hn : l.length ≤ 1000000) :
    Calls Tryz.prog 75 #[.agg #[.int .i64 g, v]] w fun e w' => ∃ v', e = .returned (.agg #[.int .i64 g, v']) ∧ RdI .i64 w' v' l ∧ Fresh w.heap.size v' ∧ Keeps w w' [] := by
  obtain ⟨i0, hi, hz0, hz1, hz2⟩ := info_parts Tryz.infoInt
  obtain ⟨A0, n, c, rfl, hnl, -⟩ := hv.form
  have HV := Lib.hid (fun w1 (k : Keeps w w1 []) => hv.keeps k)
  have bx := (Blk.new w #[.int .i64 g, .slice A0 n c] 27).alloc (.cells #[.int .i64 0, nilV] 27)
  have bz := Blk.new (w.alloc (.cells #[.int .i64 g, .slice A0 n c] 27)) #[.int .i64 0, nilV] 27
  have k0 := ((Keeps.refl w []).alloc (.cells #[.int .i64 g, .slice A0 n c] 27)).alloc (.cells #[.int .i64 0, nilV] 27)
  simp only [World.size_alloc] at bz
  clear hv hnl
  go_enter Tryz.func75, Tryz.ntmps75
  go_wp2_with fail
  generalize hW0 : ((w.alloc (.cells #[.int .i64 g, .slice A0 n c] 27)).alloc (.cells #[.int .i64 0, nilV] 27)) = W0 at *
  have hs0 : W0.heap.size = w.heap.size + 2 := by subst hW0; simp [World.size_alloc]
  clear hW0
  refine wp_region_held_drew (S := (fun w' => Blk w' w.heap.size #[.int .i64 g, .slice A0 n c] 27 ∧ Keeps w w' [])) (by kernel_rfl) ⟨bx.drew, k0.drew⟩ (fun hHeld => ?_)
  refine takeL (i := 0) (v := ?_) rfl (by kernel_rfl) (by kernel_rfl) (by kernel_rfl) (fun _ _ _ h => h) (by rfl) ?_ (by assumption) ?_
  rotate_left
  · (intro w9 hSw; obtain ⟨q0, q1⟩ := tbl_cells hSw.1; clear hSw; go_simp; (try with_reducible rfl))
  try simp only [Act.put, List.setIfInBounds_toArray, List.set_cons_zero, List.set_cons_succ]
  refine takeL (i := 1) (v := ?_) rfl (by kernel_rfl) (by kernel_rfl) (by kernel_rfl) (fun _ _ _ h => h) (by rfl) ?_ (by assumption) ?_
  rotate_left
  · (intro w9 hSw; obtain ⟨q0, q1⟩ := tbl_cells hSw.1; clear hSw; go_simp; (try with_reducible rfl))
  try simp only [Act.put, List.setIfInBounds_toArray, List.set_cons_zero, List.set_cons_succ]
  refine takeL (i := 2) (v := ?_) rfl (by kernel_rfl) (by kernel_rfl) (by kernel_rfl) (fun _ _ _ h => h) (by rfl) ?_ (by assumption) ?_
  rotate_left
  · (intro w9 hSw; obtain ⟨q0, q1⟩ := tbl_cells hSw.1; clear hSw; go_simp; (try with_reducible rfl))
  try simp only [Act.put, List.setIfInBounds_toArray, List.set_cons_zero, List.set_cons_succ]
  refine takeL (i := 3) (v := ?_) rfl (by kernel_rfl) (by kernel_rfl) (by kernel_rfl) (fun _ _ _ h => h) (by rfl) ?_ (by assumption) ?_
  rotate_left
  · (intro w9 hSw; obtain ⟨q0, q1⟩ := tbl_cells hSw.1; clear hSw; go_simp; (try with_reducible rfl))
  try simp only [Act.put, List.setIfInBounds_toArray, List.set_cons_zero, List.set_cons_succ]
  refine callL (i := 4) rfl (by kernel_rfl) (fun Kont hK => ?_)
  refine step_appendI rfl _ _ 25 rfl (w.heap.size + 2) 3 i0 (.int .i64 0) 8 Tryz.underlying25 hi hz0 hz1 hz2 rfl (.slice none 0 0) 0 [] rfl (World.ownsRow_nil _ _ _ _) _ rfl .i64 l (HV.out _ hHeld.2) (by unfold maxLen; omega) (by omega) (by simp; omega) ?_
  intro v3 w3 own3 g9
  rw [Nat.zero_add, List.nil_append] at own3
  have kk := Keeps.of_grown (S := []) g9 (fun k hk => by simp [Value.ownBlock] at hk)
  refine hK.out _ _ ?_ (fun hHeld => ?_)
  · exact ⟨hHeld.1.keeps kk (by simp), hHeld.2.then kk⟩
  clear hK Kont g9
  have F3 := own_freshI own3
  have R3 := own_reads own3
  obtain ⟨B0, m, d, rfl, -, -⟩ := R3.form
  refine takeL (i := 5) (v := ?_) rfl (by kernel_rfl) (by kernel_rfl) (by kernel_rfl) (fun _ _ _ h => h) (by rfl) ?_ (by assumption) ?_
  rotate_left
  · (intro w9 hSw; clear hSw; go_simp; (try with_reducible rfl))
  try simp only [Act.put, List.setIfInBounds_toArray, List.set_cons_zero, List.set_cons_succ]
  refine callL (i := 6) rfl (by kernel_rfl) (fun Kont hK => ?_)
  refine step_store_blk rfl 27 _ _ rfl (w.heap.size + 1) #[.int .i64 g, .slice B0 m d] rfl rfl _ _ (bz.drew.keeps kk (by simp)) tbl_size rfl (by simp [Value.oneCell']) ?_
  intro W9 b9 k9
  refine hK.out _ _ ?_ (fun hHeld => ?_)
  · exact ⟨hHeld.1.keeps k9 (by simp), hHeld.2.trans k9 (fun j hj hlt => by simp at hj; omega)⟩
  clear hK Kont
  refine wpAnyH_done (by kernel_rfl) ?_ _
  go_wp2_with fail
  refine bodyPost_ret (v := .agg #[.int .i64 g, .slice B0 m d]) (res_cell rfl rfl (load_tbl b9 rfl)) rfl ⟨_, rfl, R3.past F3 k9 (by omega), F3.mono (by omega), hHeld.2⟩

set_option maxRecDepth 100000 in
set_option maxHeartbeats 4000000 in
theorem rcown_any (g1 g2 g3 a b c : Int) (t n1 n2 n3 : Value) (T L1 L2 L3 : List Int) (w : World) (ht : RdI .i64 w t T) (h1 : RdI .i64 w n1 L1) (h2 : RdI .i64 w n2 L2) (h3 : RdI .i64 w n3 L3) (hT : T.length ≤ 1000000) (hL1 : L1.length ≤ 1000000) (hL2 : L2.length ≤ 1000000) (hL3 : L3.length ≤ 1000000) :
    Calls Tryz.prog 41 #[.agg #[t, .int .i64 g1, n1, .int .i64 g2, n2, .int .i64 g3, n3, .int .i64 a, .int .i64 b, .int .i64 c]] w fun e w' => ∃ t' n1' n2' n3', e = .returned (.agg #[t', .int .i64 g1, n1', .int .i64 g2, n2', .int .i64 g3, n3', .int .i64 a, .int .i64 b, .int .i64 c]) ∧
      (RdI .i64 w' t' T ∧ RdI .i64 w' n1' L1 ∧ RdI .i64 w' n2' L2 ∧ RdI .i64 w' n3' L3) ∧ (Fresh w.heap.size t' ∧ Fresh w.heap.size n1' ∧ Fresh w.heap.size n2' ∧ Fresh w.heap.size n3') ∧ Keeps w w' [] := by
  obtain ⟨i0, hi, hz0, hz1, hz2⟩ := info_parts Tryz.infoInt
  have HV := Lib.hid (fun w1 (k : Keeps w w1 []) => ht.keeps k)
  have HT1 := Lib.hid (fun w1 (k : Keeps w w1 []) => rtown_any g1 n1 L1 w1 (h1.keeps k) hL1)
  have HT2 := Lib.hid (fun w1 (k : Keeps w w1 []) => rtown_any g2 n2 L2 w1 (h2.keeps k) hL2)
  have HT3 := Lib.hid (fun w1 (k : Keeps w w1 []) => rtown_any g3 n3 L3 w1 (h3.keeps k) hL3)
  obtain ⟨pa, pm, pc, rfl, htn, -⟩ := ht.form
  obtain ⟨p1a, p1m, p1c, rfl, h1n, -⟩ := h1.form
  obtain ⟨p2a, p2m, p2c, rfl, h2n, -⟩ := h2.form
  obtain ⟨p3a, p3m, p3c, rfl, h3n, -⟩ := h3.form
  have bx := (Blk.new w #[.slice pa pm pc, .int .i64 g1, .slice p1a p1m p1c, .int .i64 g2, .slice p2a p2m p2c, .int .i64 g3, .slice p3a p3m p3c, .int .i64 a, .int .i64 b, .int .i64 c] 30).alloc (.cells #[nilV, .int .i64 0, nilV, .int .i64 0, nilV, .int .i64 0, nilV, .int .i64 0, .int .i64 0, .int .i64 0] 30)
  have bz := Blk.new (w.alloc (.cells #[.slice pa pm pc, .int .i64 g1, .slice p1a p1m p1c, .int .i64 g2, .slice p2a p2m p2c, .int .i64 g3, .slice p3a p3m p3c, .int .i64 a, .int .i64 b, .int .i64 c] 30)) #[nilV, .int .i64 0, nilV, .int .i64 0, nilV, .int .i64 0, nilV, .int .i64 0, .int .i64 0, .int .i64 0] 30
  have k0 := ((Keeps.refl w []).alloc (.cells #[.slice pa pm pc, .int .i64 g1, .slice p1a p1m p1c, .int .i64 g2, .slice p2a p2m p2c, .int .i64 g3, .slice p3a p3m p3c, .int .i64 a, .int .i64 b, .int .i64 c] 30)).alloc (.cells #[nilV, .int .i64 0, nilV, .int .i64 0, nilV, .int .i64 0, nilV, .int .i64 0, .int .i64 0, .int .i64 0] 30)
  simp only [World.size_alloc] at bz
  clear ht h1 h2 h3 htn h1n h2n h3n
  go_enter Tryz.func41, Tryz.ntmps41
  go_wp2_with fail
  generalize hW0 : ((w.alloc (.cells #[.slice pa pm pc, .int .i64 g1, .slice p1a p1m p1c, .int .i64 g2, .slice p2a p2m p2c, .int .i64 g3, .slice p3a p3m p3c, .int .i64 a, .int .i64 b, .int .i64 c] 30)).alloc (.cells #[nilV, .int .i64 0, nilV, .int .i64 0, nilV, .int .i64 0, nilV, .int .i64 0, .int .i64 0, .int .i64 0] 30)) = W0 at *
  have hs0 : W0.heap.size = w.heap.size + 2 := by subst hW0; simp [World.size_alloc]
  clear hW0
  refine wp_region_held_drew (S := (fun w' => Blk w' w.heap.size #[.slice pa pm pc, .int .i64 g1, .slice p1a p1m p1c, .int .i64 g2, .slice p2a p2m p2c, .int .i64 g3, .slice p3a p3m p3c, .int .i64 a, .int .i64 b, .int .i64 c] 30 ∧ Keeps w w' [])) (by kernel_rfl) ⟨bx.drew, k0.drew⟩ (fun hHeld => ?_)
  refine takeL (i := 0) (v := ?_) rfl (by kernel_rfl) (by kernel_rfl) (by kernel_rfl) (fun _ _ _ h => h) (by rfl) ?_ (by assumption) ?_
  rotate_left
  · (intro w9 hSw; have q0 := ctx_cell0 hSw.1; obtain ⟨q1, q2, q3, q4, q5, q6, q7, q8, q9⟩ := ctx_cells hSw.1; have qr := three_rep hSw.1; clear hSw; go_simp; (try with_reducible rfl))
  try simp only [Act.put, List.setIfInBounds_toArray, List.set_cons_zero, List.set_cons_succ]
  refine takeL (i := 1) (v := ?_) rfl (by kernel_rfl) (by kernel_rfl) (by kernel_rfl) (fun _ _ _ h => h) (by rfl) ?_ (by assumption) ?_
  rotate_left
  · (intro w9 hSw; have q0 := ctx_cell0 hSw.1; obtain ⟨q1, q2, q3, q4, q5, q6, q7, q8, q9⟩ := ctx_cells hSw.1; have qr := three_rep hSw.1; clear hSw; go_simp; (try with_reducible rfl))
  try simp only [Act.put, List.setIfInBounds_toArray, List.set_cons_zero, List.set_cons_succ]
  refine takeL (i := 3) (v := ?_) rfl (by kernel_rfl) (by kernel_rfl) (by kernel_rfl) (fun _ _ _ h => h) (by rfl) ?_ (by assumption) ?_
  rotate_left
  · (intro w9 hSw; have q0 := ctx_cell0 hSw.1; obtain ⟨q1, q2, q3, q4, q5, q6, q7, q8, q9⟩ := ctx_cells hSw.1; have qr := three_rep hSw.1; clear hSw; go_simp; (try with_reducible rfl))
  try simp only [Act.put, List.setIfInBounds_toArray, List.set_cons_zero, List.set_cons_succ]
  refine takeL (i := 4) (v := ?_) rfl (by kernel_rfl) (by kernel_rfl) (by kernel_rfl) (fun _ _ _ h => h) (by rfl) ?_ (by assumption) ?_
  rotate_left
  · (intro w9 hSw; have q0 := ctx_cell0 hSw.1; obtain ⟨q1, q2, q3, q4, q5, q6, q7, q8, q9⟩ := ctx_cells hSw.1; have qr := three_rep hSw.1; clear hSw; go_simp; (try with_reducible rfl))
  try simp only [Act.put, List.setIfInBounds_toArray, List.set_cons_zero, List.set_cons_succ]
  refine takeL (i := 6) (v := ?_) rfl (by kernel_rfl) (by kernel_rfl) (by kernel_rfl) (fun _ _ _ h => h) (by rfl) ?_ (by assumption) ?_
  rotate_left
  · (intro w9 hSw; have q0 := ctx_cell0 hSw.1; obtain ⟨q1, q2, q3, q4, q5, q6, q7, q8, q9⟩ := ctx_cells hSw.1; have qr := three_rep hSw.1; clear hSw; go_simp; (try with_reducible rfl))
  try simp only [Act.put, List.setIfInBounds_toArray, List.set_cons_zero, List.set_cons_succ]
  refine takeL (i := 7) (v := ?_) rfl (by kernel_rfl) (by kernel_rfl) (by kernel_rfl) (fun _ _ _ h => h) (by rfl) ?_ (by assumption) ?_
  rotate_left
  · (intro w9 hSw; have q0 := ctx_cell0 hSw.1; obtain ⟨q1, q2, q3, q4, q5, q6, q7, q8, q9⟩ := ctx_cells hSw.1; have qr := three_rep hSw.1; clear hSw; go_simp; (try with_reducible rfl))
  try simp only [Act.put, List.setIfInBounds_toArray, List.set_cons_zero, List.set_cons_succ]
  refine takeL (i := 9) (v := ?_) rfl (by kernel_rfl) (by kernel_rfl) (by kernel_rfl) (fun _ _ _ h => h) (by rfl) ?_ (by assumption) ?_
  rotate_left
  · (intro w9 hSw; have q0 := ctx_cell0 hSw.1; obtain ⟨q1, q2, q3, q4, q5, q6, q7, q8, q9⟩ := ctx_cells hSw.1; have qr := three_rep hSw.1; clear hSw; go_simp; (try with_reducible rfl))
  try simp only [Act.put, List.setIfInBounds_toArray, List.set_cons_zero, List.set_cons_succ]
  refine takeL (i := 10) (v := ?_) rfl (by kernel_rfl) (by kernel_rfl) (by kernel_rfl) (fun _ _ _ h => h) (by rfl) ?_ (by assumption) ?_
  rotate_left
  · (intro w9 hSw; have q0 := ctx_cell0 hSw.1; obtain ⟨q1, q2, q3, q4, q5, q6, q7, q8, q9⟩ := ctx_cells hSw.1; have qr := three_rep hSw.1; clear hSw; go_simp; (try with_reducible rfl))
  try simp only [Act.put, List.setIfInBounds_toArray, List.set_cons_zero, List.set_cons_succ]
  refine takeL (i := 12) (v := ?_) rfl (by kernel_rfl) (by kernel_rfl) (by kernel_rfl) (fun _ _ _ h => h) (by rfl) ?_ (by assumption) ?_
  rotate_left
  · (intro w9 hSw; have q0 := ctx_cell0 hSw.1; obtain ⟨q1, q2, q3, q4, q5, q6, q7, q8, q9⟩ := ctx_cells hSw.1; have qr := three_rep hSw.1; clear hSw; go_simp; (try with_reducible rfl))
  try simp only [Act.put, List.setIfInBounds_toArray, List.set_cons_zero, List.set_cons_succ]
  refine takeL (i := 13) (v := ?_) rfl (by kernel_rfl) (by kernel_rfl) (by kernel_rfl) (fun _ _ _ h => h) (by rfl) ?_ (by assumption) ?_
  rotate_left
  · (intro w9 hSw; have q0 := ctx_cell0 hSw.1; obtain ⟨q1, q2, q3, q4, q5, q6, q7, q8, q9⟩ := ctx_cells hSw.1; have qr := three_rep hSw.1; clear hSw; go_simp; (try with_reducible rfl))
  try simp only [Act.put, List.setIfInBounds_toArray, List.set_cons_zero, List.set_cons_succ]
  refine callL (i := 2) rfl (by kernel_rfl) (fun Kont hK => ?_)
  refine step_appendI rfl _ _ 25 rfl (w.heap.size + 2) 3 i0 (.int .i64 0) 8 Tryz.underlying25 hi hz0 hz1 hz2 rfl (.slice none 0 0) 0 [] rfl (World.ownsRow_nil _ _ _ _) _ rfl .i64 T (HV.out _ hHeld.2) (by unfold maxLen; omega) (by omega) (by simp; omega) ?_
  intro v3 w3 own3 g9
  rw [Nat.zero_add, List.nil_append] at own3
  have kk := Keeps.of_grown (S := []) g9 (fun k hk => by simp [Value.ownBlock] at hk)
  refine hK.out _ _ ?_ (fun hHeld => ?_)
  · exact ⟨hHeld.1.keeps kk (by simp), hHeld.2.then kk⟩
  clear hK Kont g9
  have F0 := own_freshI own3
  have R0 := own_reads own3
  replace bz := bz.drew.keeps kk (by simp)
  have hsz : w.heap.size + 2 ≤ w3.heap.size := by have := kk.size; simp at this; omega
  obtain ⟨B0, m0, d0, rfl, -, -⟩ := R0.form
  refine callL (i := 5) rfl (by kernel_rfl) (fun Kont hK => ?_)
  go_simp
  refine (HT1.out _ hHeld.2).mono ?_
  rintro e w4 ⟨v1, rfl, R1, F1, kk⟩
  obtain ⟨B1, m1, d1, rfl, -, -⟩ := R1.form
  replace F1 := F1.mono hsz
  replace bz := bz.keeps kk (by simp)
  replace hsz := Nat.le_trans hsz kk.size
  replace R0 := R0.keeps kk
  go_wp2_with fail
  refine hK.out _ _ ?_ (fun hHeld => ?_)
  · exact ⟨hHeld.1.keeps kk (by simp), hHeld.2.then kk⟩
  clear hK Kont
  refine callL (i := 8) rfl (by kernel_rfl) (fun Kont hK => ?_)
  go_simp
  refine (HT2.out _ hHeld.2).mono ?_
  rintro e w5 ⟨v2, rfl, R2, F2, kk⟩
  obtain ⟨B2, m2, d2, rfl, -, -⟩ := R2.form
  replace F2 := F2.mono hsz
  replace bz := bz.keeps kk (by simp)
  replace hsz := Nat.le_trans hsz kk.size
  replace R0 := R0.keeps kk
  replace R1 := R1.keeps kk
  go_wp2_with fail
  refine hK.out _ _ ?_ (fun hHeld => ?_)
  · exact ⟨hHeld.1.keeps kk (by simp), hHeld.2.then kk⟩
  clear hK Kont
  refine callL (i := 11) rfl (by kernel_rfl) (fun Kont hK => ?_)
  go_simp
  refine (HT3.out _ hHeld.2).mono ?_
  rintro e w6 ⟨v3, rfl, R3, F3, kk⟩
  obtain ⟨B3, m3, d3, rfl, -, -⟩ := R3.form
  replace F3 := F3.mono hsz
  replace bz := bz.keeps kk (by simp)
  replace hsz := Nat.le_trans hsz kk.size
  replace R0 := R0.keeps kk
  replace R1 := R1.keeps kk
  replace R2 := R2.keeps kk
  go_wp2_with fail
  refine hK.out _ _ ?_ (fun hHeld => ?_)
  · exact ⟨hHeld.1.keeps kk (by simp), hHeld.2.then kk⟩
  clear hK Kont
  refine takeL (i := 14) (v := ?_) rfl (by kernel_rfl) (by kernel_rfl) (by kernel_rfl) (fun _ _ _ h => h) (by rfl) ?_ (by assumption) ?_
  rotate_left
  · (intro w9 hSw; clear hSw; go_simp; (try with_reducible rfl))
  try simp only [Act.put, List.setIfInBounds_toArray, List.set_cons_zero, List.set_cons_succ]
  refine callL (i := 15) rfl (by kernel_rfl) (fun Kont hK => ?_)
  refine step_store_blk rfl 30 _ _ rfl (w.heap.size + 1) #[.slice B0 m0 d0, .int .i64 g1, .slice B1 m1 d1, .int .i64 g2, .slice B2 m2 d2, .int .i64 g3, .slice B3 m3 d3, .int .i64 a, .int .i64 b, .int .i64 c] rfl rfl _ _ (bz) ctx_size rfl (by simp [Value.oneCell']) ?_
  intro W9 b9 k9
  refine hK.out _ _ ?_ (fun hHeld => ?_)
  · exact ⟨hHeld.1.keeps k9 (by simp), hHeld.2.trans k9 (fun j hj hlt => by simp at hj; omega)⟩
  clear hK Kont
  refine wpAnyH_done (by kernel_rfl) ?_ _
  go_wp2_with fail
  refine bodyPost_ret (v := .agg #[.slice B0 m0 d0, .int .i64 g1, .slice B1 m1 d1, .int .i64 g2, .slice B2 m2 d2, .int .i64 g3, .slice B3 m3 d3, .int .i64 a, .int .i64 b, .int .i64 c]) (res_cell rfl rfl (load_ctx b9 rfl)) rfl ⟨_, _, _, _, rfl, ⟨R0.past F0 k9 (by omega), R1.past F1 k9 (by omega), R2.past F2 k9 (by omega), R3.past F3 k9 (by omega)⟩, ⟨F0.mono (by omega), F1.mono (by omega), F2.mono (by omega), F3.mono (by omega)⟩, hHeld.2⟩

theorem ten_ctx {w : World} {p : Nat} {v0 v1 v2 v3 v4 v5 v6 v7 v8 v9 va vb : Value} {T : TypeId} (h : Blk w p #[v0, v1, v2, v3, v4, v5, v6, v7, v8, v9, va, vb] T) : w.rangeAt p 1 [v1, v2, v3, v4, v5, v6, v7, v8, v9, va] :=
  h.range 1 _ (fun j v hv => by match j, hv with | 0, hv => exact hv | 1, hv => exact hv | 2, hv => exact hv | 3, hv => exact hv | 4, hv => exact hv | 5, hv => exact hv | 6, hv => exact hv | 7, hv => exact hv | 8, hv => exact hv | 9, hv => exact hv)

set_option maxRecDepth 100000 in
set_option maxHeartbeats 4000000 in
theorem down_any (id g1 g2 g3 a b c : Int) (t n1 n2 n3 x : Value) (T L1 L2 L3 X : List Int) (w : World) (ht : RdI .i64 w t T) (h1 : RdI .i64 w n1 L1) (h2 : RdI .i64 w n2 L2) (h3 : RdI .i64 w n3 L3) (hx : RdI .u8 w x X) (hT : T.length ≤ 1000000) (hL1 : L1.length ≤ 1000000) (hL2 : L2.length ≤ 1000000) (hL3 : L3.length ≤ 1000000) (hX : X.length ≤ 1000000) :
    Calls Tryz.prog 19 #[.agg (dictC id t g1 n1 g2 n2 g3 n3 a b c x)] w fun e w' => ∃ t' n1' n2' n3' x', e = .returned (.agg (dictC id t' g1 n1' g2 n2' g3 n3' a b c x')) ∧
      (RdI .i64 w' t' T ∧ RdI .i64 w' n1' L1 ∧ RdI .i64 w' n2' L2 ∧ RdI .i64 w' n3' L3 ∧ RdI .u8 w' x' X) ∧ (Fresh w.heap.size t' ∧ Fresh w.heap.size n1' ∧ Fresh w.heap.size n2' ∧ Fresh w.heap.size n3' ∧ Fresh w.heap.size x') ∧ Keeps w w' [] := by
  have HC := Lib.hid (fun w1 (k : Keeps w w1 []) => rcown_any g1 g2 g3 a b c t n1 n2 n3 T L1 L2 L3 w1 (ht.keeps k) (h1.keeps k) (h2.keeps k) (h3.keeps k) hT hL1 hL2 hL3)
  have HO := Lib.hid (fun w1 (k : Keeps w w1 []) => r_own x X w1 (hx.keeps k) hX)
  obtain ⟨pa, pm, pc, rfl, htn, -⟩ := ht.form
  obtain ⟨p1a, p1m, p1c, rfl, h1n, -⟩ := h1.form
  obtain ⟨p2a, p2m, p2c, rfl, h2n, -⟩ := h2.form
  obtain ⟨p3a, p3m, p3c, rfl, h3n, -⟩ := h3.form
  obtain ⟨pxa, pxm, pxc, rfl, hxn, -⟩ := hx.form
  have bx := (Blk.new w (dictC id (.slice pa pm pc) g1 (.slice p1a p1m p1c) g2 (.slice p2a p2m p2c) g3 (.slice p3a p3m p3c) a b c (.slice pxa pxm pxc)) 32).alloc (.cells zeroC 32)
  have bz := Blk.new (w.alloc (.cells (dictC id (.slice pa pm pc) g1 (.slice p1a p1m p1c) g2 (.slice p2a p2m p2c) g3 (.slice p3a p3m p3c) a b c (.slice pxa pxm pxc)) 32)) zeroC 32
  have k0 := ((Keeps.refl w []).alloc (.cells (dictC id (.slice pa pm pc) g1 (.slice p1a p1m p1c) g2 (.slice p2a p2m p2c) g3 (.slice p3a p3m p3c) a b c (.slice pxa pxm pxc)) 32)).alloc (.cells zeroC 32)
  simp only [World.size_alloc] at bz
  clear ht h1 h2 h3 hx htn h1n h2n h3n hxn
  go_enter Tryz.func19, Tryz.ntmps19
  go_wp2_with fail
  generalize hW0 : ((w.alloc (.cells (dictC id (.slice pa pm pc) g1 (.slice p1a p1m p1c) g2 (.slice p2a p2m p2c) g3 (.slice p3a p3m p3c) a b c (.slice pxa pxm pxc)) 32)).alloc (.cells zeroC 32)) = W0 at *
  have hs0 : W0.heap.size = w.heap.size + 2 := by subst hW0; simp [World.size_alloc]
  clear hW0
  refine wp_region_held_drew (S := (fun w' => Blk w' w.heap.size (dictC id (.slice pa pm pc) g1 (.slice p1a p1m p1c) g2 (.slice p2a p2m p2c) g3 (.slice p3a p3m p3c) a b c (.slice pxa pxm pxc)) 32 ∧ Keeps w w' [])) (by kernel_rfl) ⟨bx.drew, k0.drew⟩ (fun hHeld => ?_)
  refine takeL (i := 0) (v := ?_) rfl (by kernel_rfl) (by kernel_rfl) (by kernel_rfl) (fun _ _ _ h => h) (by rfl) ?_ (by assumption) ?_
  rotate_left
  · (intro w9 hSw; obtain ⟨q0, q1, q2, q3, q4, q5, q6, q7, q8, q9, qa, qb⟩ := dict_cells hSw.1; have qr := ten_ctx hSw.1; clear hSw; go_simp; (try with_reducible rfl))
  try simp only [Act.put, List.setIfInBounds_toArray, List.set_cons_zero, List.set_cons_succ]
  refine takeL (i := 1) (v := ?_) rfl (by kernel_rfl) (by kernel_rfl) (by kernel_rfl) (fun _ _ _ h => h) (by rfl) ?_ (by assumption) ?_
  rotate_left
  · (intro w9 hSw; obtain ⟨q0, q1, q2, q3, q4, q5, q6, q7, q8, q9, qa, qb⟩ := dict_cells hSw.1; have qr := ten_ctx hSw.1; clear hSw; go_simp; (try with_reducible rfl))
  try simp only [Act.put, List.setIfInBounds_toArray, List.set_cons_zero, List.set_cons_succ]
  refine takeL (i := 2) (v := ?_) rfl (by kernel_rfl) (by kernel_rfl) (by kernel_rfl) (fun _ _ _ h => h) (by rfl) ?_ (by assumption) ?_
  rotate_left
  · (intro w9 hSw; obtain ⟨q0, q1, q2, q3, q4, q5, q6, q7, q8, q9, qa, qb⟩ := dict_cells hSw.1; have qr := ten_ctx hSw.1; clear hSw; go_simp; (try with_reducible rfl))
  try simp only [Act.put, List.setIfInBounds_toArray, List.set_cons_zero, List.set_cons_succ]
  refine takeL (i := 3) (v := ?_) rfl (by kernel_rfl) (by kernel_rfl) (by kernel_rfl) (fun _ _ _ h => h) (by rfl) ?_ (by assumption) ?_
  rotate_left
  · (intro w9 hSw; obtain ⟨q0, q1, q2, q3, q4, q5, q6, q7, q8, q9, qa, qb⟩ := dict_cells hSw.1; have qr := ten_ctx hSw.1; clear hSw; go_simp; (try with_reducible rfl))
  try simp only [Act.put, List.setIfInBounds_toArray, List.set_cons_zero, List.set_cons_succ]
  refine takeL (i := 5) (v := ?_) rfl (by kernel_rfl) (by kernel_rfl) (by kernel_rfl) (fun _ _ _ h => h) (by rfl) ?_ (by assumption) ?_
  rotate_left
  · (intro w9 hSw; obtain ⟨q0, q1, q2, q3, q4, q5, q6, q7, q8, q9, qa, qb⟩ := dict_cells hSw.1; have qr := ten_ctx hSw.1; clear hSw; go_simp; (try with_reducible rfl))
  try simp only [Act.put, List.setIfInBounds_toArray, List.set_cons_zero, List.set_cons_succ]
  refine takeL (i := 6) (v := ?_) rfl (by kernel_rfl) (by kernel_rfl) (by kernel_rfl) (fun _ _ _ h => h) (by rfl) ?_ (by assumption) ?_
  rotate_left
  · (intro w9 hSw; obtain ⟨q0, q1, q2, q3, q4, q5, q6, q7, q8, q9, qa, qb⟩ := dict_cells hSw.1; have qr := ten_ctx hSw.1; clear hSw; go_simp; (try with_reducible rfl))
  try simp only [Act.put, List.setIfInBounds_toArray, List.set_cons_zero, List.set_cons_succ]
  refine callL (i := 4) rfl (by kernel_rfl) (fun Kont hK => ?_)
  go_simp
  refine (HC.out _ hHeld.2).mono ?_
  rintro e w4 ⟨u0, u1, u2, u3, rfl, ⟨R0, R1, R2, R3⟩, ⟨F0, F1, F2, F3⟩, kk⟩
  have hsz : w.heap.size + 2 ≤ w4.heap.size := by have := kk.size; simp at this; omega
  have hsy : w.heap.size + 2 ≤ W0.drew.heap.size := by simp; omega
  obtain ⟨B0, m0, d0, rfl, -, -⟩ := R0.form
  obtain ⟨B1, m1, d1, rfl, -, -⟩ := R1.form
  obtain ⟨B2, m2, d2, rfl, -, -⟩ := R2.form
  obtain ⟨B3, m3, d3, rfl, -, -⟩ := R3.form
  replace F0 := F0.mono hsy
  replace F1 := F1.mono hsy
  replace F2 := F2.mono hsy
  replace F3 := F3.mono hsy
  replace bz := bz.drew.keeps kk (by simp)
  go_wp2_with fail
  refine hK.out _ _ ?_ (fun hHeld => ?_)
  · exact ⟨hHeld.1.keeps kk (by simp), hHeld.2.then kk⟩
  clear hK Kont
  refine callL (i := 7) rfl (by kernel_rfl) (fun Kont hK => ?_)
  go_simp
  refine (HO.out _ hHeld.2).mono ?_
  rintro e w5 ⟨u4, rfl, own4, kk⟩
  have F4 := (own_freshB own4).mono hsz
  have R4 := own_reads own4
  obtain ⟨B4, m4, d4, rfl, -, -⟩ := R4.form
  replace bz := bz.keeps kk (by simp)
  replace R0 := R0.keeps kk
  replace R1 := R1.keeps kk
  replace R2 := R2.keeps kk
  replace R3 := R3.keeps kk
  go_wp2_with fail
  refine hK.out _ _ ?_ (fun hHeld => ?_)
  · exact ⟨hHeld.1.keeps kk (by simp), hHeld.2.then kk⟩
  clear hK Kont
  refine takeL (i := 8) (v := ?_) rfl (by kernel_rfl) (by kernel_rfl) (by kernel_rfl) (fun _ _ _ h => h) (by rfl) ?_ (by assumption) ?_
  rotate_left
  · (intro w9 hSw; clear hSw; go_simp; (try with_reducible rfl))
  try simp only [Act.put, List.setIfInBounds_toArray, List.set_cons_zero, List.set_cons_succ]
  refine callL (i := 9) rfl (by kernel_rfl) (fun Kont hK => ?_)
  refine step_store_blk rfl 32 _ _ rfl (w.heap.size + 1) (dictC id (.slice B0 m0 d0) g1 (.slice B1 m1 d1) g2 (.slice B2 m2 d2) g3 (.slice B3 m3 d3) a b c (.slice B4 m4 d4)) rfl rfl _ _ (bz) dict_size rfl (by simp [Value.oneCell']) ?_
  intro W9 b9 k9
  refine hK.out _ _ ?_ (fun hHeld => ?_)
  · exact ⟨hHeld.1.keeps k9 (by simp), hHeld.2.trans k9 (fun j hj hlt => by simp at hj; omega)⟩
  clear hK Kont
  refine wpAnyH_done (by kernel_rfl) ?_ _
  go_wp2_with fail
  refine bodyPost_ret (v := .agg (dictC id (.slice B0 m0 d0) g1 (.slice B1 m1 d1) g2 (.slice B2 m2 d2) g3 (.slice B3 m3 d3) a b c (.slice B4 m4 d4))) (res_cell rfl rfl (load_dict b9 rfl)) rfl ⟨_, _, _, _, _, rfl, ⟨R0.past F0 k9 (by omega), R1.past F1 k9 (by omega), R2.past F2 k9 (by omega), R3.past F3 k9 (by omega), R4.past F4 k9 (by omega)⟩, ⟨F0.mono (by omega), F1.mono (by omega), F2.mono (by omega), F3.mono (by omega), F4.mono (by omega)⟩, hHeld.2⟩


end Go.Proofs.YtcmagccfagijlaaGreat
