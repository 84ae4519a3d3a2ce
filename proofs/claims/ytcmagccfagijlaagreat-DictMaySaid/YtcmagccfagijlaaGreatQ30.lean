/-
  Walks over package dict: slices.Clone of numbers, copied, InitialContext in general. (Printed by mkEh.py.)
-/
import Derived.Test.YtcmagccfagijlaaGreatQ29
import Derived.Test.YtcmagccfagijlaaGreatQ26
import Derived.Test.YtcmagccfagijlaaGreatQ10
import Derived.Shelf.Abstract
namespace Go.Proofs.YtcmagccfagijlaaGreat
set_option linter.unusedVariables false
set_option linter.unusedSimpArgs false
set_option linter.unusedSectionVars false
open Go.RowKit

section
open Go.Shelf
attribute [local go_sem] Oper.semAt_some
set_option maxRecDepth 100000 in
set_option maxHeartbeats 1000000 in
theorem clonei_any (v : Value) (l : List Int) (w : World) (hv : RdI .i64 w v l) (hl : l.length ≤ 1000000) :
    Calls Tryz.prog 42 #[v] w fun e w' => ∃ v', e = .returned v' ∧ RdI .i64 w' v' l ∧ Fresh w.heap.size v' ∧ Keeps w w' [] := by
  obtain ⟨i0, hi, hz0, hz1, hz2⟩ := info_parts Tryz.infoInt
  obtain ⟨ad, n, c, rfl, -, -⟩ := hv.form
  have HV := Lib.hid hv
  have heq : ∀ w : World, (binOp .eql 25 (.slice ad n c) (.slice none 0 0)).run Tryz.prog w = .ok (.bool ad.isNone) w := fun w => Lib.run_eql_slice_nil w _ _ _ _ _ _ _ Tryz.underlying25
  cases ad with
  | none =>
    obtain ⟨rfl, rfl, rfl⟩ := hv.nilcap
    simp only [Option.isNone_none] at heq
    clear hv
    go_enter Tryz.func42, Tryz.ntmps42
    go_wp2_with fail
    go_ret
    exact ⟨_, rfl, .nil, Fresh.nil, Keeps.refl _ _⟩
  | some ad =>
    simp only [Option.isNone_some] at heq
    clear hv
    go_enter Tryz.func42, Tryz.ntmps42
    go_wp2_with (refine wpList_copyI rfl rfl rfl 25 3 _ _ _ rfl rfl rfl i0 (.int .i64 0) 8 Tryz.underlying25 hi hz0 hz1 hz2 rfl (.slice (some ad) n c) (fun _ => rfl) (fun _ => rfl) (fun _ => rfl) .i64 l HV.out (by unfold maxLen; omega) (by omega) ?_; intro v0 v1 w1 own1 k1 ne1; obtain ⟨a1, c1, rfl⟩ := own_form own1)
    go_ret
    exact ⟨_, rfl, own_reads own1, own_freshI own1, k1⟩
end

set_option maxRecDepth 100000 in
set_option maxHeartbeats 2000000 in
theorem copied_any (g : Int) (v : Value) (l : List Int) (w : World) (hv : RdI .i64 w v l) (hn : l.length ≤ 1000000) :
    Calls Tryz.prog 43 #[.agg #[.int .i64 g, v]] w fun e w' => ∃ v', e = .returned (.agg #[.int .i64 g, v']) ∧ RdI .i64 w' v' l ∧ Fresh w.heap.size v' ∧ Keeps w w' [] := by
  obtain ⟨A0, n, c, rfl, hnl, -⟩ := hv.form
  have HV := Lib.hid (fun w1 (k : Keeps w w1 []) => clonei_any _ l w1 (hv.keeps k) hn)
  have bx := (Blk.new w #[.int .i64 g, .slice A0 n c] 27).alloc (.cells #[.int .i64 0, nilV] 27)
  have bz := Blk.new (w.alloc (.cells #[.int .i64 g, .slice A0 n c] 27)) #[.int .i64 0, nilV] 27
  have k0 := ((Keeps.refl w []).alloc (.cells #[.int .i64 g, .slice A0 n c] 27)).alloc (.cells #[.int .i64 0, nilV] 27)
  simp only [World.size_alloc] at bz
  clear hv hnl
  go_enter Tryz.func43, Tryz.ntmps43
  go_wp2_with fail
  generalize hW0 : ((w.alloc (.cells #[.int .i64 g, .slice A0 n c] 27)).alloc (.cells #[.int .i64 0, nilV] 27)) = W0 at *
  have hs0 : W0.heap.size = w.heap.size + 2 := by subst hW0; simp [World.size_alloc]
  clear hW0
  refine wp_region_held_drew (S := (fun w' => Blk w' w.heap.size #[.int .i64 g, .slice A0 n c] 27 ∧ Keeps w w' [])) (by kernel_rfl) ⟨bx.drew, k0.drew⟩ (fun hHeld => ?_)
  refine takeL (i := 0) (v := ?_) rfl (by kernel_rfl) (by kernel_rfl) (by kernel_rfl) (fun _ _ _ h => h) (by rfl) ?_ (by assumption) ?_
  rotate_left
  · (intro w9 hSw; obtain ⟨q0, q1⟩ := tbl_cells hSw.1; clear hSw; go_simp; (try with_reducible rfl))
  try simp only [Act.put, List.setIfInBounds_toArray, List.set_cons_zero, List.set_cons_succ]
  refine takeL (i := 1) (v := ?_) rfl (by kernel_rfl) (by kernel_rfl) (by kernel_rfl) (fun _ _ _ h => h) (by rfl) ?_ (by assumption) ?_
  rotate_left
  · (intro w9 hSw; obtain ⟨q0, q1⟩ := tbl_cells hSw.1; clear hSw; go_simp; (try with_reducible rfl))
  try simp only [Act.put, List.setIfInBounds_toArray, List.set_cons_zero, List.set_cons_succ]
  refine takeL (i := 2) (v := ?_) rfl (by kernel_rfl) (by kernel_rfl) (by kernel_rfl) (fun _ _ _ h => h) (by rfl) ?_ (by assumption) ?_
  rotate_left
  · (intro w9 hSw; obtain ⟨q0, q1⟩ := tbl_cells hSw.1; clear hSw; go_simp; (try with_reducible rfl))
  try simp only [Act.put, List.setIfInBounds_toArray, List.set_cons_zero, List.set_cons_succ]
  refine takeL (i := 3) (v := ?_) rfl (by kernel_rfl) (by kernel_rfl) (by kernel_rfl) (fun _ _ _ h => h) (by rfl) ?_ (by assumption) ?_
  rotate_left
  · (intro w9 hSw; obtain ⟨q0, q1⟩ := tbl_cells hSw.1; clear hSw; go_simp; (try with_reducible rfl))
  try simp only [Act.put, List.setIfInBounds_toArray, List.set_cons_zero, List.set_cons_succ]
  refine callL (i := 4) rfl (by kernel_rfl) (fun Kont hK => ?_)
  go_simp
  refine (HV.out _ hHeld.2).mono ?_
  rintro e w3 ⟨v3, rfl, R3, F3, kk⟩
  have hsy : w.heap.size + 2 ≤ W0.drew.heap.size := by simp; omega
  have hsz : w.heap.size + 2 ≤ w3.heap.size := Nat.le_trans hsy kk.size
  replace F3 := F3.mono hsy
  replace bz := bz.drew.keeps kk (by simp)
  obtain ⟨B0, m, d, rfl, -, -⟩ := R3.form
  go_wp2_with fail
  refine hK.out _ _ ?_ (fun hHeld => ?_)
  · exact ⟨hHeld.1.keeps kk (by simp), hHeld.2.then kk⟩
  clear hK Kont
  refine takeL (i := 5) (v := ?_) rfl (by kernel_rfl) (by kernel_rfl) (by kernel_rfl) (fun _ _ _ h => h) (by rfl) ?_ (by assumption) ?_
  rotate_left
  · (intro w9 hSw; clear hSw; go_simp; (try with_reducible rfl))
  try simp only [Act.put, List.setIfInBounds_toArray, List.set_cons_zero, List.set_cons_succ]
  refine callL (i := 6) rfl (by kernel_rfl) (fun Kont hK => ?_)
  refine step_store_blk rfl 27 _ _ rfl (w.heap.size + 1) #[.int .i64 g, .slice B0 m d] rfl rfl _ _ (bz) tbl_size rfl (by simp [Value.oneCell']) ?_
  intro W9 b9 k9
  refine hK.out _ _ ?_ (fun hHeld => ?_)
  · exact ⟨hHeld.1.keeps k9 (by simp; try omega), hHeld.2.trans k9 (fun j hj hlt => by simp at hj; omega)⟩
  clear hK Kont
  refine wpAnyH_done (by kernel_rfl) ?_ _
  go_wp2_with fail
  refine bodyPost_ret (v := .agg #[.int .i64 g, .slice B0 m d]) (res_cell rfl rfl (load_tbl b9 rfl)) rfl ⟨_, rfl, R3.past F3 k9 (by omega), F3.mono (by omega), hHeld.2⟩

/-- A call returns a context: that of a valid dictionary, or the first one. -/
def CtxEnd (w : World) (V : Bool) (T L1 L2 L3 : List Int) (g1 g2 g3 a b c : Int) (e : Ending) (w' : World) : Prop :=
  ∃ t' G1 n1' G2 n2' G3 n3' A B C T' M1 M2 M3, e = .returned (.agg #[t', .int .i64 G1, n1', .int .i64 G2, n2', .int .i64 G3, n3', .int .i64 A, .int .i64 B, .int .i64 C]) ∧ (RdI .i64 w' t' T' ∧ RdI .i64 w' n1' M1 ∧ RdI .i64 w' n2' M2 ∧ RdI .i64 w' n3' M3) ∧
    (T', G1, M1, G2, M2, G3, M3, A, B, C) = (if V then (T, g1, L1, g2, L2, g3, L3, a, b, c) else ([], 0, [], 0, [], 0, [], 1, 4, 8)) ∧ Keeps w w' []

set_option maxRecDepth 100000 in
set_option maxHeartbeats 8000000 in
theorem initc_any (p : Nat) (id g1 g2 g3 a b c : Int) (t n1 n2 n3 x : Value) (T L1 L2 L3 X : List Int) (w : World) (bp : Blk w p (dictC id t g1 n1 g2 n2 g3 n3 a b c x) 32) (ht : RdI .i64 w t T) (h1 : RdI .i64 w n1 L1) (h2 : RdI .i64 w n2 L2) (h3 : RdI .i64 w n3 L3) (hx : RdI .u8 w x X) (hT : T.length ≤ 1000000) (hL1 : L1.length ≤ 1000000) (hL2 : L2.length ≤ 1000000) (hL3 : L3.length ≤ 1000000) (hX : X.length ≤ 1000000) (hxb : ∀ y ∈ X, 0 ≤ y ∧ y ≤ 255) (hb1 : ∀ x ∈ L1, -9223372036854775808 ≤ x ∧ x ≤ 9223372036854775807) (hb2 : ∀ x ∈ L2, -9223372036854775808 ≤ x ∧ x ≤ 9223372036854775807) (hb3 : ∀ x ∈ L3, -9223372036854775808 ≤ x ∧ x ≤ 9223372036854775807) :
    Calls Tryz.prog 20 #[.pointer (some ⟨p, 0, none⟩)] w (CtxEnd w (validB id T L1 L2 L3 g1 g2 g3 a b c X) T L1 L2 L3 g1 g2 g3 a b c) := by
  have HVA := Lib.hid (fun w1 (k : Keeps w w1 []) => valid_any id g1 g2 g3 a b c t n1 n2 n3 x T L1 L2 L3 X w1 (ht.keeps k) (h1.keeps k) (h2.keeps k) (h3.keeps k) (hx.keeps k) hT hL1 hL2 hL3 hX hxb hb1 hb2 hb3)
  have HCT := Lib.hid (fun w1 (k : Keeps w w1 []) => clonei_any t T w1 (ht.keeps k) hT)
  have HT1 := Lib.hid (fun w1 (k : Keeps w w1 []) => copied_any g1 n1 L1 w1 (h1.keeps k) hL1)
  have HT2 := Lib.hid (fun w1 (k : Keeps w w1 []) => copied_any g2 n2 L2 w1 (h2.keeps k) hL2)
  have HT3 := Lib.hid (fun w1 (k : Keeps w w1 []) => copied_any g3 n3 L3 w1 (h3.keeps k) hL3)
  obtain ⟨pa, pm, pc, rfl, htn, -⟩ := ht.form
  obtain ⟨p1a, p1m, p1c, rfl, h1n, -⟩ := h1.form
  obtain ⟨p2a, p2m, p2c, rfl, h2n, -⟩ := h2.form
  obtain ⟨p3a, p3m, p3c, rfl, h3n, -⟩ := h3.form
  obtain ⟨pxa, pxm, pxc, rfl, hxn, -⟩ := hx.form
  clear ht h1 h2 h3 hx htn h1n h2n h3n hxn hT hL1 hL2 hL3 hX hxb hb1 hb2 hb3
  generalize validB id T L1 L2 L3 g1 g2 g3 a b c X = V at *
  have hpw := bp.lt
  have bz := Blk.new w #[nilV, .int .i64 0, nilV, .int .i64 0, nilV, .int .i64 0, nilV, .int .i64 0, .int .i64 0, .int .i64 0] 30
  have bp1 := bp.alloc (.cells #[nilV, .int .i64 0, nilV, .int .i64 0, nilV, .int .i64 0, nilV, .int .i64 0, .int .i64 0, .int .i64 0] 30)
  have k1 := (Keeps.refl w []).alloc (.cells #[nilV, .int .i64 0, nilV, .int .i64 0, nilV, .int .i64 0, nilV, .int .i64 0, .int .i64 0, .int .i64 0] 30)
  obtain ⟨q0, q1, q2, q3, q4, q5, q6, q7, q8, q9, qa, qb⟩ := dict_cells bp1
  go_enter Tryz.func20, Tryz.ntmps20
  go_wp2_with fail
  clear q0 q1 q2 q3 q4 q5 q6 q7 q8 q9 qa qb
  generalize (w.alloc (.cells #[nilV, .int .i64 0, nilV, .int .i64 0, nilV, .int .i64 0, nilV, .int .i64 0, .int .i64 0, .int .i64 0] 30)) = W0 at *
  refine (HVA.out _ k1).mono ?_
  rintro e w1 ⟨rfl, kk⟩
  replace bz := bz.keeps kk (by simp)
  replace bp1 := bp1.keeps kk (by simp)
  replace k1 := k1.then kk
  clear kk
  cases V
  · clear bp bp1
    go_wp2_with fail
    refine (first_any _).mono ?_
    rintro e w2 ⟨rfl, kk⟩
    replace bz := bz.keeps kk (by simp)
    replace k1 := k1.then kk
    clear kk
    go_wp2_with (refine wpList_store_blk rfl 30 _ _ rfl w.heap.size #[nilV, .int .i64 0, nilV, .int .i64 0, nilV, .int .i64 0, nilV, .int .i64 1, .int .i64 4, .int .i64 8] rfl rfl _ _ bz ctx_size rfl (by simp [Value.oneCell']) ?_; intro W2 hb2 k2)
    refine bodyPost_ret (v := .agg #[nilV, .int .i64 0, nilV, .int .i64 0, nilV, .int .i64 0, nilV, .int .i64 1, .int .i64 4, .int .i64 8]) (res_cell rfl rfl (load_ctx hb2 rfl)) rfl ⟨_, _, _, _, _, _, _, _, _, _, [], [], [], [], rfl, ⟨.nil, .nil, .nil, .nil⟩, rfl, k1.trans k2 (fun j hj hlt => by simp at hj; omega)⟩
  obtain ⟨q0, q1, q2, q3, q4, q5, q6, q7, q8, q9, qa, qb⟩ := dict_cells bp1
  have hsw := bz.lt
  go_wp2_with fail
  clear q0 q1 q2 q3 q4 q5 q6 q7 q8 q9 qa qb
  have bx := Blk.new w1 #[.slice pa pm pc, .int .i64 g1, .slice p1a p1m p1c, .int .i64 g2, .slice p2a p2m p2c, .int .i64 g3, .slice p3a p3m p3c, .int .i64 a, .int .i64 b, .int .i64 c] 30
  replace bz := bz.alloc (.cells #[.slice pa pm pc, .int .i64 g1, .slice p1a p1m p1c, .int .i64 g2, .slice p2a p2m p2c, .int .i64 g3, .slice p3a p3m p3c, .int .i64 a, .int .i64 b, .int .i64 c] 30)
  have k0 := k1.alloc (.cells #[.slice pa pm pc, .int .i64 g1, .slice p1a p1m p1c, .int .i64 g2, .slice p2a p2m p2c, .int .i64 g3, .slice p3a p3m p3c, .int .i64 a, .int .i64 b, .int .i64 c] 30)
  have hs0 : (w1.alloc (.cells #[.slice pa pm pc, .int .i64 g1, .slice p1a p1m p1c, .int .i64 g2, .slice p2a p2m p2c, .int .i64 g3, .slice p3a p3m p3c, .int .i64 a, .int .i64 b, .int .i64 c] 30)).heap.size = w1.heap.size + 1 := by simp [World.size_alloc]
  generalize (w1.alloc (.cells #[.slice pa pm pc, .int .i64 g1, .slice p1a p1m p1c, .int .i64 g2, .slice p2a p2m p2c, .int .i64 g3, .slice p3a p3m p3c, .int .i64 a, .int .i64 b, .int .i64 c] 30)) = W3 at *
  refine wp_region_held_drew (S := (fun w' => Blk w' w1.heap.size #[.slice pa pm pc, .int .i64 g1, .slice p1a p1m p1c, .int .i64 g2, .slice p2a p2m p2c, .int .i64 g3, .slice p3a p3m p3c, .int .i64 a, .int .i64 b, .int .i64 c] 30 ∧ Keeps w w' [])) (by kernel_rfl) ⟨bx.drew, k0.drew⟩ (fun hHeld => ?_)
  replace bz := bz.drew
  have hsz : w1.heap.size + 1 ≤ W3.drew.heap.size := by simp; omega
  refine takeL (i := 0) (v := ?_) rfl (by kernel_rfl) (by kernel_rfl) (by kernel_rfl) (fun _ _ _ h => h) (by rfl) ?_ (by assumption) ?_
  rotate_left
  · (intro w9 hSw; have q0 := ctx_cell0 hSw.1; obtain ⟨q1, q2, q3, q4, q5, q6, q7, q8, q9⟩ := ctx_cells hSw.1; have qr := three_rep hSw.1; clear hSw; go_simp; (try with_reducible rfl))
  try simp only [Act.put, List.setIfInBounds_toArray, List.set_cons_zero, List.set_cons_succ]
  refine takeL (i := 1) (v := ?_) rfl (by kernel_rfl) (by kernel_rfl) (by kernel_rfl) (fun _ _ _ h => h) (by rfl) ?_ (by assumption) ?_
  rotate_left
  · (intro w9 hSw; have q0 := ctx_cell0 hSw.1; obtain ⟨q1, q2, q3, q4, q5, q6, q7, q8, q9⟩ := ctx_cells hSw.1; have qr := three_rep hSw.1; clear hSw; go_simp; (try with_reducible rfl))
  try simp only [Act.put, List.setIfInBounds_toArray, List.set_cons_zero, List.set_cons_succ]
  refine takeL (i := 3) (v := ?_) rfl (by kernel_rfl) (by kernel_rfl) (by kernel_rfl) (fun _ _ _ h => h) (by rfl) ?_ (by assumption) ?_
  rotate_left
  · (intro w9 hSw; have q0 := ctx_cell0 hSw.1; obtain ⟨q1, q2, q3, q4, q5, q6, q7, q8, q9⟩ := ctx_cells hSw.1; have qr := three_rep hSw.1; clear hSw; go_simp; (try with_reducible rfl))
  try simp only [Act.put, List.setIfInBounds_toArray, List.set_cons_zero, List.set_cons_succ]
  refine takeL (i := 4) (v := ?_) rfl (by kernel_rfl) (by kernel_rfl) (by kernel_rfl) (fun _ _ _ h => h) (by rfl) ?_ (by assumption) ?_
  rotate_left
  · (intro w9 hSw; have q0 := ctx_cell0 hSw.1; obtain ⟨q1, q2, q3, q4, q5, q6, q7, q8, q9⟩ := ctx_cells hSw.1; have qr := three_rep hSw.1; clear hSw; go_simp; (try with_reducible rfl))
  try simp only [Act.put, List.setIfInBounds_toArray, List.set_cons_zero, List.set_cons_succ]
  refine takeL (i := 6) (v := ?_) rfl (by kernel_rfl) (by kernel_rfl) (by kernel_rfl) (fun _ _ _ h => h) (by rfl) ?_ (by assumption) ?_
  rotate_left
  · (intro w9 hSw; have q0 := ctx_cell0 hSw.1; obtain ⟨q1, q2, q3, q4, q5, q6, q7, q8, q9⟩ := ctx_cells hSw.1; have qr := three_rep hSw.1; clear hSw; go_simp; (try with_reducible rfl))
  try simp only [Act.put, List.setIfInBounds_toArray, List.set_cons_zero, List.set_cons_succ]
  refine takeL (i := 7) (v := ?_) rfl (by kernel_rfl) (by kernel_rfl) (by kernel_rfl) (fun _ _ _ h => h) (by rfl) ?_ (by assumption) ?_
  rotate_left
  · (intro w9 hSw; have q0 := ctx_cell0 hSw.1; obtain ⟨q1, q2, q3, q4, q5, q6, q7, q8, q9⟩ := ctx_cells hSw.1; have qr := three_rep hSw.1; clear hSw; go_simp; (try with_reducible rfl))
  try simp only [Act.put, List.setIfInBounds_toArray, List.set_cons_zero, List.set_cons_succ]
  refine takeL (i := 9) (v := ?_) rfl (by kernel_rfl) (by kernel_rfl) (by kernel_rfl) (fun _ _ _ h => h) (by rfl) ?_ (by assumption) ?_
  rotate_left
  · (intro w9 hSw; have q0 := ctx_cell0 hSw.1; obtain ⟨q1, q2, q3, q4, q5, q6, q7, q8, q9⟩ := ctx_cells hSw.1; have qr := three_rep hSw.1; clear hSw; go_simp; (try with_reducible rfl))
  try simp only [Act.put, List.setIfInBounds_toArray, List.set_cons_zero, List.set_cons_succ]
  refine takeL (i := 10) (v := ?_) rfl (by kernel_rfl) (by kernel_rfl) (by kernel_rfl) (fun _ _ _ h => h) (by rfl) ?_ (by assumption) ?_
  rotate_left
  · (intro w9 hSw; have q0 := ctx_cell0 hSw.1; obtain ⟨q1, q2, q3, q4, q5, q6, q7, q8, q9⟩ := ctx_cells hSw.1; have qr := three_rep hSw.1; clear hSw; go_simp; (try with_reducible rfl))
  try simp only [Act.put, List.setIfInBounds_toArray, List.set_cons_zero, List.set_cons_succ]
  refine takeL (i := 12) (v := ?_) rfl (by kernel_rfl) (by kernel_rfl) (by kernel_rfl) (fun _ _ _ h => h) (by rfl) ?_ (by assumption) ?_
  rotate_left
  · (intro w9 hSw; have q0 := ctx_cell0 hSw.1; obtain ⟨q1, q2, q3, q4, q5, q6, q7, q8, q9⟩ := ctx_cells hSw.1; have qr := three_rep hSw.1; clear hSw; go_simp; (try with_reducible rfl))
  try simp only [Act.put, List.setIfInBounds_toArray, List.set_cons_zero, List.set_cons_succ]
  refine takeL (i := 13) (v := ?_) rfl (by kernel_rfl) (by kernel_rfl) (by kernel_rfl) (fun _ _ _ h => h) (by rfl) ?_ (by assumption) ?_
  rotate_left
  · (intro w9 hSw; have q0 := ctx_cell0 hSw.1; obtain ⟨q1, q2, q3, q4, q5, q6, q7, q8, q9⟩ := ctx_cells hSw.1; have qr := three_rep hSw.1; clear hSw; go_simp; (try with_reducible rfl))
  try simp only [Act.put, List.setIfInBounds_toArray, List.set_cons_zero, List.set_cons_succ]
  refine callL (i := 2) rfl (by kernel_rfl) (fun Kont hK => ?_)
  go_simp
  refine (HCT.out _ hHeld.2).mono ?_
  rintro e w4 ⟨v0, rfl, R0, F0, kk⟩
  obtain ⟨B0, m0, d0, rfl, -, -⟩ := R0.form
  replace F0 := F0.mono hsz
  replace bz := bz.keeps kk (by simp)
  replace hsz := Nat.le_trans hsz kk.size
  go_wp2_with fail
  refine hK.out _ _ ?_ (fun hHeld => ?_)
  · exact ⟨hHeld.1.keeps kk (by simp), hHeld.2.then kk⟩
  clear hK Kont
  refine callL (i := 5) rfl (by kernel_rfl) (fun Kont hK => ?_)
  go_simp
  refine (HT1.out _ hHeld.2).mono ?_
  rintro e w5 ⟨v1, rfl, R1, F1, kk⟩
  obtain ⟨B1, m1, d1, rfl, -, -⟩ := R1.form
  replace F1 := F1.mono hsz
  replace bz := bz.keeps kk (by simp)
  replace hsz := Nat.le_trans hsz kk.size
  replace R0 := R0.keeps kk
  go_wp2_with fail
  refine hK.out _ _ ?_ (fun hHeld => ?_)
  · exact ⟨hHeld.1.keeps kk (by simp), hHeld.2.then kk⟩
  clear hK Kont
  refine callL (i := 8) rfl (by kernel_rfl) (fun Kont hK => ?_)
  go_simp
  refine (HT2.out _ hHeld.2).mono ?_
  rintro e w6 ⟨v2, rfl, R2, F2, kk⟩
  obtain ⟨B2, m2, d2, rfl, -, -⟩ := R2.form
  replace F2 := F2.mono hsz
  replace bz := bz.keeps kk (by simp)
  replace hsz := Nat.le_trans hsz kk.size
  replace R0 := R0.keeps kk
  replace R1 := R1.keeps kk
  go_wp2_with fail
  refine hK.out _ _ ?_ (fun hHeld => ?_)
  · exact ⟨hHeld.1.keeps kk (by simp), hHeld.2.then kk⟩
  clear hK Kont
  refine callL (i := 11) rfl (by kernel_rfl) (fun Kont hK => ?_)
  go_simp
  refine (HT3.out _ hHeld.2).mono ?_
  rintro e w7 ⟨v3, rfl, R3, F3, kk⟩
  obtain ⟨B3, m3, d3, rfl, -, -⟩ := R3.form
  replace F3 := F3.mono hsz
  replace bz := bz.keeps kk (by simp)
  replace hsz := Nat.le_trans hsz kk.size
  replace R0 := R0.keeps kk
  replace R1 := R1.keeps kk
  replace R2 := R2.keeps kk
  go_wp2_with fail
  refine hK.out _ _ ?_ (fun hHeld => ?_)
  · exact ⟨hHeld.1.keeps kk (by simp), hHeld.2.then kk⟩
  clear hK Kont
  refine takeL (i := 14) (v := ?_) rfl (by kernel_rfl) (by kernel_rfl) (by kernel_rfl) (fun _ _ _ h => h) (by rfl) ?_ (by assumption) ?_
  rotate_left
  · (intro w9 hSw; clear hSw; go_simp; (try with_reducible rfl))
  try simp only [Act.put, List.setIfInBounds_toArray, List.set_cons_zero, List.set_cons_succ]
  refine callL (i := 15) rfl (by kernel_rfl) (fun Kont hK => ?_)
  refine step_store_blk rfl 30 _ _ rfl (w.heap.size) #[.slice B0 m0 d0, .int .i64 g1, .slice B1 m1 d1, .int .i64 g2, .slice B2 m2 d2, .int .i64 g3, .slice B3 m3 d3, .int .i64 a, .int .i64 b, .int .i64 c] rfl rfl _ _ (bz) ctx_size rfl (by simp [Value.oneCell']) ?_
  intro W9 b9 k9
  refine hK.out _ _ ?_ (fun hHeld => ?_)
  · exact ⟨hHeld.1.keeps k9 (by simp; try omega), hHeld.2.trans k9 (fun j hj hlt => by simp at hj; omega)⟩
  clear hK Kont
  refine wpAnyH_done (by kernel_rfl) ?_ _
  go_wp2_with fail
  refine bodyPost_ret (v := .agg #[.slice B0 m0 d0, .int .i64 g1, .slice B1 m1 d1, .int .i64 g2, .slice B2 m2 d2, .int .i64 g3, .slice B3 m3 d3, .int .i64 a, .int .i64 b, .int .i64 c]) (res_cell rfl rfl (load_ctx b9 rfl)) rfl ⟨_, _, _, _, _, _, _, _, _, _, T, L1, L2, L3, rfl, ⟨R0.past F0 k9 (by omega), R1.past F1 k9 (by omega), R2.past F2 k9 (by omega), R3.past F3 k9 (by omega)⟩, rfl, hHeld.2⟩


end Go.Proofs.YtcmagccfagijlaaGreat
