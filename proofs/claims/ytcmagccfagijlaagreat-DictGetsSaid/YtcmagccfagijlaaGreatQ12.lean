/-
  Walks over package dict: InitialContext(nil); the law's known. (Printed by mkDO.py.)
-/
import Derived.Test.YtcmagccfagijlaaGreatQ11
namespace Go.Proofs.YtcmagccfagijlaaGreat
set_option linter.unusedVariables false
set_option linter.unusedSimpArgs false
set_option linter.unusedSectionVars false
open Go.RowKit

theorem ctx_size : (Tryz.prog.info? 30).map (·.size) = some 10 := by kernel_rfl
theorem load_ctx {w : World} {b : Nat} {cs : Array Value} (h : Blk w b cs 30) (hs : cs.size = 10) : (loadVar 30 ⟨b, 0, none⟩).run Tryz.prog w = .ok (.agg cs) w :=
  load_blk h Tryz.underlying30 rfl (by rw [ctx_size, hs])

set_option maxRecDepth 100000 in
set_option maxHeartbeats 2000000 in
theorem init_nil (w : World) : Calls Tryz.prog 20 #[.pointer none] w fun e w' => e = .returned (.agg #[nilV, .int .i64 0, nilV, .int .i64 0, nilV, .int .i64 0, nilV, .int .i64 1, .int .i64 4, .int .i64 8]) ∧ Keeps w w' [] := by
  have hb := Blk.new w #[nilV, .int .i64 0, nilV, .int .i64 0, nilV, .int .i64 0, nilV, .int .i64 0, .int .i64 0, .int .i64 0] 30
  have k0 := (Keeps.refl w []).alloc (.cells #[nilV, .int .i64 0, nilV, .int .i64 0, nilV, .int .i64 0, nilV, .int .i64 0, .int .i64 0, .int .i64 0] 30)
  go_enter Tryz.func20, Tryz.ntmps20
  go_wp2_with (first
    | (go_at_call 32; go_loud (refine (first_any _).mono ?_; rintro e w2 ⟨rfl, k2⟩; have hb2 := hb.keeps k2 (by simp); have kw2 := k0.then k2))
    | (refine wpList_store_blk rfl 30 _ _ rfl w.heap.size #[nilV, .int .i64 0, nilV, .int .i64 0, nilV, .int .i64 0, nilV, .int .i64 1, .int .i64 4, .int .i64 8] rfl rfl _ _ hb2 ctx_size rfl (by simp [Value.oneCell']) ?_; intro W3 hb3 k3))
  refine bodyPost_ret (v := .agg #[nilV, .int .i64 0, nilV, .int .i64 0, nilV, .int .i64 0, nilV, .int .i64 1, .int .i64 4, .int .i64 8]) (res_cell rfl rfl (load_ctx hb3 rfl)) rfl ⟨rfl, kw2.trans k3 (fun j hj hlt => by simp at hj; omega)⟩

theorem kc_at (w : World) (C : Array Value) (n c g : Nat) (hg : w.heap.size = g) : (convert 22 22 (.slice (some ⟨g, 0, none⟩) n c)).run Tryz.prog (w.alloc (.cells C 5)) = .ok (.slice (some ⟨g, 0, none⟩) n c) (w.alloc (.cells C 5 (C.size, C.size + 1))) := by
  subst hg
  exact Lib.run_convert_bytes_const (P := Tryz.prog) w 22 5 C n c Tryz.underlying22 Tryz.underlying5

theorem dict_cells {w : World} {p : Nat} {v0 v1 v2 v3 v4 v5 v6 v7 v8 v9 va vb : Value} {T : TypeId} (h : Blk w p #[v0, v1, v2, v3, v4, v5, v6, v7, v8, v9, va, vb] T) :
    w.cell? ⟨p, 0, none⟩ = some v0 ∧ w.cell? ⟨p, 1, none⟩ = some v1 ∧ w.cell? ⟨p, 2, none⟩ = some v2 ∧ w.cell? ⟨p, 3, none⟩ = some v3 ∧ w.cell? ⟨p, 4, none⟩ = some v4 ∧ w.cell? ⟨p, 5, none⟩ = some v5 ∧ w.cell? ⟨p, 6, none⟩ = some v6 ∧ w.cell? ⟨p, 7, none⟩ = some v7 ∧ w.cell? ⟨p, 8, none⟩ = some v8 ∧ w.cell? ⟨p, 9, none⟩ = some v9 ∧ w.cell? ⟨p, 10, none⟩ = some va ∧ w.cell? ⟨p, 11, none⟩ = some vb :=
  ⟨h.cell 0, h.cell 1, h.cell 2, h.cell 3, h.cell 4, h.cell 5, h.cell 6, h.cell 7, h.cell 8, h.cell 9, h.cell 10, h.cell 11⟩
theorem ctx_cell0 {w : World} {p : Nat} {v0 v1 v2 v3 v4 v5 v6 v7 v8 v9 : Value} {T : TypeId} (h : Blk w p #[v0, v1, v2, v3, v4, v5, v6, v7, v8, v9] T) : w.cell? ⟨p, 0, none⟩ = some v0 := h.cell 0

theorem get_a (w : World) (v : Value) (hv : RdI .u8 w v [97, 98, 99]) : Calls Tryz.prog 24 #[v] w fun e w' => ∃ x, e = .returned (.tuple #[.agg (rawC x), .int .i64 0]) ∧ RdI .u8 w' x [97, 98, 99] ∧ Fresh w.heap.size x ∧ Keeps w w' [] :=
  get_raw v _ w hv (by decide) (by decide) (by decide)
theorem get_b (w : World) (v : Value) (hv : RdI .u8 w v [80, 77, 84, 68]) : Calls Tryz.prog 24 #[v] w fun e w' => e = .returned (.tuple #[.agg zeroC, .int .i64 3]) ∧ Keeps w w' [] :=
  get_bad v _ 3 w hv (by decide) (by decide) (by decide) (fun W p v' h => full_short p 0 v' _ W h (by decide))
theorem get_c (w : World) (v : Value) (hv : RdI .u8 w v [80, 77, 84, 68, 0, 0, 0, 0]) : Calls Tryz.prog 24 #[v] w fun e w' => e = .returned (.tuple #[.agg zeroC, .int .i64 9]) ∧ Keeps w w' [] :=
  get_bad v _ 9 w hv (by decide) (by decide) (by decide) (fun W p v' h => full_zero p 0 v' _ W h (by decide) (by decide))

set_option maxRecDepth 100000 in
set_option maxHeartbeats 8000000 in
theorem known_true (w : World) : Calls Tryz.prog 11 #[] w fun e w' => e = .returned (.bool true) ∧ Keeps w w' [] := by
  have kc := fun (w : World) (C : Array Value) (n c : Nat) => Lib.run_convert_bytes_const (P := Tryz.prog) w 22 5 C n c Tryz.underlying22 Tryz.underlying5
  have h3q := fun w1 => eq_three 1 4 8 1 4 8 w1
  simp only [BEq.rfl, Bool.and_true] at h3q
  have k0 := Keeps.refl w []
  go_enter Tryz.func11, Tryz.ntmps11
  go_wp2_with fail
  refine (get_a _ _ (RdI.lit _ _ rfl rfl (Nat.le_refl _))).mono ?_
  rintro e w1 ⟨x1, rfl, rx, -, k1⟩
  obtain ⟨xa, xm, xc, rfl, -, -⟩ := rx.form
  replace k0 := (k0.alloc _).then k1
  clear k1
  have kc2 := fun (C : Array Value) (n c : Nat) => kc_at (w1.alloc (.cells (rawC (.slice xa xm xc)) 32)) C n c (w1.heap.size + 1) (by simp)
  have bd := Blk.new w1 (rawC (.slice xa xm xc)) 32
  go_wp2_with fail
  have kx := ((Keeps.refl w1 []).alloc (.cells (rawC (.slice xa xm xc)) 32))
  have rl := RdI.lit (k := .u8) (w1.alloc (.cells (rawC (.slice xa xm xc)) 32)) (l := [80, 77, 84, 68]) (T := 5) (cs := #[.int .u8 80, .int .u8 77, .int .u8 84, .int .u8 68]) (4, 4 + 1) rfl (n := 4) (cp := 4) rfl (Nat.le_refl _)
  simp only [World.size_alloc] at rl
  refine (get_b _ _ rl).mono ?_
  rintro e w2 ⟨rfl, k2⟩
  replace kx := (kx.alloc (.cells #[.int .u8 80, .int .u8 77, .int .u8 84, .int .u8 68] 5 (4, 4 + 1))).then k2
  replace k0 := k0.then kx
  replace rx := rx.keeps kx
  replace bd := (bd.alloc (.cells #[.int .u8 80, .int .u8 77, .int .u8 84, .int .u8 68] 5 (4, 4 + 1))).keeps k2 (by simp)
  have hlb := bd.lt
  clear k2 kx rl kc2
  generalize w1.heap.size = G at *
  have kc3 := fun (C : Array Value) (n c : Nat) => kc_at (w2.alloc (.cells zeroC 32)) C n c (w2.heap.size + 1) (by simp)
  go_wp2_with fail
  have kx := ((Keeps.refl w2 []).alloc (.cells zeroC 32))
  have rl := RdI.lit (k := .u8) (w2.alloc (.cells zeroC 32)) (l := [80, 77, 84, 68, 0, 0, 0, 0]) (T := 5) (cs := #[.int .u8 80, .int .u8 77, .int .u8 84, .int .u8 68, .int .u8 0, .int .u8 0, .int .u8 0, .int .u8 0]) (8, 8 + 1) rfl (n := 8) (cp := 8) rfl (Nat.le_refl _)
  simp only [World.size_alloc] at rl
  refine (get_c _ _ rl).mono ?_
  rintro e w3 ⟨rfl, k2⟩
  replace kx := (kx.alloc (.cells #[.int .u8 80, .int .u8 77, .int .u8 84, .int .u8 68, .int .u8 0, .int .u8 0, .int .u8 0, .int .u8 0] 5 (8, 8 + 1))).then k2
  replace k0 := k0.then kx
  replace rx := rx.keeps kx
  replace bd := bd.keeps kx (by simp)
  clear k2 kx rl kc3
  go_wp2_with fail
  have kx := ((Keeps.refl w3 []).alloc (.cells zeroC 32))
  refine (init_nil _).mono ?_
  rintro e w4 ⟨rfl, k2⟩
  replace kx := kx.then k2
  replace k0 := k0.then kx
  replace rx := rx.keeps kx
  replace bd := bd.keeps kx (by simp)
  clear k2 kx
  go_wp2_with fail
  have z1 := bd.alloc (.cells #[nilV, .int .i64 0, nilV, .int .i64 0, nilV, .int .i64 0, nilV, .int .i64 1, .int .i64 4, .int .i64 8] 30)
  have z2 := Blk.new w4 #[nilV, .int .i64 0, nilV, .int .i64 0, nilV, .int .i64 0, nilV, .int .i64 1, .int .i64 4, .int .i64 8] 30
  replace rx := rx.keeps ((Keeps.refl w4 []).alloc (.cells #[nilV, .int .i64 0, nilV, .int .i64 0, nilV, .int .i64 0, nilV, .int .i64 1, .int .i64 4, .int .i64 8] 30))
  replace k0 := k0.alloc (.cells #[nilV, .int .i64 0, nilV, .int .i64 0, nilV, .int .i64 0, nilV, .int .i64 1, .int .i64 4, .int .i64 8] 30)
  clear bd hlb
  generalize w4.alloc (.cells #[nilV, .int .i64 0, nilV, .int .i64 0, nilV, .int .i64 0, nilV, .int .i64 1, .int .i64 4, .int .i64 8] 30) = W5 at *
  generalize w4.heap.size = H at *
  have zk := Keeps.refl W5 []
  have kc5 : ∀ (C : Array Value) (n c : Nat), (convert 22 22 (.slice (some ⟨W5.heap.size, 0, none⟩) n c)).run Tryz.prog (W5.alloc (.cells C 5)).drew = .ok (.slice (some ⟨W5.heap.size, 0, none⟩) n c) (W5.alloc (.cells C 5 (C.size, C.size + 1))).drew := fun C n c => kc_at W5.drew C n c W5.heap.size rfl
  refine wp_region_held_drew (S := (fun w' => Blk w' G (rawC (.slice xa xm xc)) 32 ∧ Blk w' H #[nilV, .int .i64 0, nilV, .int .i64 0, nilV, .int .i64 0, nilV, .int .i64 1, .int .i64 4, .int .i64 8] 30 ∧ Keeps W5 w' [])) (by kernel_rfl) ⟨z1.drew, z2.drew, zk.drew⟩ (fun hHeld => ?_)
  refine takeL (i := 0) (v := ?_) rfl (by kernel_rfl) (by kernel_rfl) (by kernel_rfl) (fun _ _ _ h => h) (by rfl) ?_ (by assumption) ?_
  rotate_left
  · (intro w9 hSw; clear hSw; go_simp; (try with_reducible rfl))
  try simp only [Act.put, List.setIfInBounds_toArray, List.set_cons_zero, List.set_cons_succ]
  refine takeL (i := 1) (v := ?_) rfl (by kernel_rfl) (by kernel_rfl) (by kernel_rfl) (fun _ _ _ h => h) (by rfl) ?_ (by assumption) ?_
  rotate_left
  · (intro w9 hSw; clear hSw; go_simp; (try with_reducible rfl))
  try simp only [Act.put, List.setIfInBounds_toArray, List.set_cons_zero, List.set_cons_succ]
  refine takeL (i := 2) (v := ?_) rfl (by kernel_rfl) (by kernel_rfl) (by kernel_rfl) (fun _ _ _ h => h) (by rfl) ?_ (by assumption) ?_
  rotate_left
  · (intro w9 hSw; clear hSw; go_simp; (try with_reducible rfl))
  try simp only [Act.put, List.setIfInBounds_toArray, List.set_cons_zero, List.set_cons_succ]
  refine takeL (i := 3) (v := ?_) rfl (by kernel_rfl) (by kernel_rfl) (by kernel_rfl) (fun _ _ _ h => h) (by rfl) ?_ (by assumption) ?_
  rotate_left
  · (intro w9 hSw; obtain ⟨hS1, -, -⟩ := hSw; obtain ⟨q0, q1, q2, q3, q4, q5, q6, q7, q8, q9, qa, qb⟩ := dict_cells hS1; clear hS1; go_simp; (try with_reducible rfl))
  try simp only [Act.put, List.setIfInBounds_toArray, List.set_cons_zero, List.set_cons_succ]
  refine callL (i := 4) rfl (by kernel_rfl) (fun Kont hK => ?_)
  go_simp
  refine hK.out _ _ ?_ (fun hHeld => ?_)
  · (exact ⟨hHeld.1.alloc _, hHeld.2.1.alloc _, hHeld.2.2.alloc _⟩)
  clear hK Kont
  refine callL (i := 5) rfl (by kernel_rfl) (fun Kont hK => ?_)
  go_simp
  refine hK.out _ _ ?_ (fun hHeld => ?_)
  · (exact ⟨z1.drew.alloc _, z2.drew.alloc _, zk.drew.alloc _⟩)
  clear hK Kont
  refine callL (i := 6) rfl (by kernel_rfl) (fun Kont hK => ?_)
  go_simp
  refine (r_plain _ [97, 98, 99] _ (RdI.lit W5.drew (3, 3 + 1) rfl rfl (Nat.le_refl _)) (by decide)).mono ?_; rintro e w6 ⟨x6, rfl, r6, -, kk⟩; obtain ⟨ya, ym, yc, rfl, -, -⟩ := r6.form
  go_wp2_with fail
  refine hK.out _ _ ?_ (fun hHeld => ?_)
  · (exact ⟨hHeld.1.keeps kk (by simp), hHeld.2.1.keeps kk (by simp), hHeld.2.2.then kk⟩)
  clear hK Kont
  refine callL (i := 7) rfl (by kernel_rfl) (fun Kont hK => ?_)
  go_simp
  refine (dsame_yes 0 0 0 0 1 4 8 _ _ _ _ _ _ _ _ _ _ [] [] [] [] [97, 98, 99] _ .nil .nil .nil .nil .nil .nil .nil .nil (rx.keeps hHeld.2.2) r6 (by simp) (by simp) (by simp) (by simp)).mono ?_; rintro e w7 ⟨rfl, kk⟩
  go_wp2_with fail
  refine hK.out _ _ ?_ (fun hHeld => ?_)
  · (exact ⟨hHeld.1.keeps kk (by simp), hHeld.2.1.keeps kk (by simp), hHeld.2.2.then kk⟩)
  clear hK Kont
  refine takeL (i := 8) (v := ?_) rfl (by kernel_rfl) (by kernel_rfl) (by kernel_rfl) (fun _ _ _ h => h) (by rfl) ?_ (by assumption) ?_
  rotate_left
  · (intro w9 hSw; obtain ⟨-, hS2, -⟩ := hSw; have q0 := ctx_cell0 hS2; obtain ⟨q1, q2, q3, q4, q5, q6, q7, q8, q9⟩ := ctx_cells hS2; clear hS2; go_simp; (try with_reducible rfl))
  try simp only [Act.put, List.setIfInBounds_toArray, List.set_cons_zero, List.set_cons_succ]
  refine takeL (i := 9) (v := ?_) rfl (by kernel_rfl) (by kernel_rfl) (by kernel_rfl) (fun _ _ _ h => h) (by rfl) ?_ (by assumption) ?_
  rotate_left
  · (intro w9 hSw; obtain ⟨-, hS2, -⟩ := hSw; have q0 := ctx_cell0 hS2; obtain ⟨q1, q2, q3, q4, q5, q6, q7, q8, q9⟩ := ctx_cells hS2; clear hS2; go_simp; (try with_reducible rfl))
  try simp only [Act.put, List.setIfInBounds_toArray, List.set_cons_zero, List.set_cons_succ]
  refine takeL (i := 10) (v := ?_) rfl (by kernel_rfl) (by kernel_rfl) (by kernel_rfl) (fun _ _ _ h => h) (by rfl) ?_ (by assumption) ?_
  rotate_left
  · (intro w9 hSw; obtain ⟨-, hS2, -⟩ := hSw; have q0 := ctx_cell0 hS2; obtain ⟨q1, q2, q3, q4, q5, q6, q7, q8, q9⟩ := ctx_cells hS2; clear hS2; go_simp; (try with_reducible rfl))
  try simp only [Act.put, List.setIfInBounds_toArray, List.set_cons_zero, List.set_cons_succ]
  refine takeL (i := 11) (v := ?_) rfl (by kernel_rfl) (by kernel_rfl) (by kernel_rfl) (fun _ _ _ h => h) (by rfl) ?_ (by assumption) ?_
  rotate_left
  · (intro w9 hSw; obtain ⟨-, hS2, -⟩ := hSw; have q0 := ctx_cell0 hS2; obtain ⟨q1, q2, q3, q4, q5, q6, q7, q8, q9⟩ := ctx_cells hS2; clear hS2; go_simp; (try with_reducible rfl))
  try simp only [Act.put, List.setIfInBounds_toArray, List.set_cons_zero, List.set_cons_succ]
  refine takeL (i := 12) (v := ?_) rfl (by kernel_rfl) (by kernel_rfl) (by kernel_rfl) (fun _ _ _ h => h) (by rfl) ?_ (by assumption) ?_
  rotate_left
  · (intro w9 hSw; obtain ⟨-, hS2, -⟩ := hSw; have q0 := ctx_cell0 hS2; obtain ⟨q1, q2, q3, q4, q5, q6, q7, q8, q9⟩ := ctx_cells hS2; clear hS2; go_simp; (try with_reducible rfl))
  try simp only [Act.put, List.setIfInBounds_toArray, List.set_cons_zero, List.set_cons_succ]
  refine takeL (i := 13) (v := ?_) rfl (by kernel_rfl) (by kernel_rfl) (by kernel_rfl) (fun _ _ _ h => h) (by rfl) ?_ (by assumption) ?_
  rotate_left
  · (intro w9 hSw; obtain ⟨-, hS2, -⟩ := hSw; have q0 := ctx_cell0 hS2; obtain ⟨q1, q2, q3, q4, q5, q6, q7, q8, q9⟩ := ctx_cells hS2; clear hS2; go_simp; (try with_reducible rfl))
  try simp only [Act.put, List.setIfInBounds_toArray, List.set_cons_zero, List.set_cons_succ]
  refine takeL (i := 14) (v := ?_) rfl (by kernel_rfl) (by kernel_rfl) (by kernel_rfl) (fun _ _ _ h => h) (by rfl) ?_ (by assumption) ?_
  rotate_left
  · (intro w9 hSw; obtain ⟨-, hS2, -⟩ := hSw; have q0 := ctx_cell0 hS2; obtain ⟨q1, q2, q3, q4, q5, q6, q7, q8, q9⟩ := ctx_cells hS2; clear hS2; go_simp; (try with_reducible rfl))
  try simp only [Act.put, List.setIfInBounds_toArray, List.set_cons_zero, List.set_cons_succ]
  refine takeL (i := 15) (v := ?_) rfl (by kernel_rfl) (by kernel_rfl) (by kernel_rfl) (fun _ _ _ h => h) (by rfl) ?_ (by assumption) ?_
  rotate_left
  · (intro w9 hSw; obtain ⟨-, hS2, -⟩ := hSw; have q0 := ctx_cell0 hS2; obtain ⟨q1, q2, q3, q4, q5, q6, q7, q8, q9⟩ := ctx_cells hS2; clear hS2; go_simp; (try with_reducible rfl))
  try simp only [Act.put, List.setIfInBounds_toArray, List.set_cons_zero, List.set_cons_succ]
  refine takeL (i := 16) (v := ?_) rfl (by kernel_rfl) (by kernel_rfl) (by kernel_rfl) (fun _ _ _ h => h) (by rfl) ?_ (by assumption) ?_
  rotate_left
  · (intro w9 hSw; obtain ⟨-, hS2, -⟩ := hSw; have q0 := ctx_cell0 hS2; obtain ⟨q1, q2, q3, q4, q5, q6, q7, q8, q9⟩ := ctx_cells hS2; clear hS2; go_simp; (try with_reducible rfl))
  try simp only [Act.put, List.setIfInBounds_toArray, List.set_cons_zero, List.set_cons_succ]
  refine takeL (i := 17) (v := ?_) rfl (by kernel_rfl) (by kernel_rfl) (by kernel_rfl) (fun _ _ _ h => h) (by rfl) ?_ (by assumption) ?_
  rotate_left
  · (intro w9 hSw; obtain ⟨-, hS2, -⟩ := hSw; have q0 := ctx_cell0 hS2; obtain ⟨q1, q2, q3, q4, q5, q6, q7, q8, q9⟩ := ctx_cells hS2; clear hS2; go_simp; (try with_reducible rfl))
  try simp only [Act.put, List.setIfInBounds_toArray, List.set_cons_zero, List.set_cons_succ]
  refine takeL (i := 18) (v := ?_) rfl (by kernel_rfl) (by kernel_rfl) (by kernel_rfl) (fun _ _ _ h => h) (by rfl) ?_ (by assumption) ?_
  rotate_left
  · (intro w9 hSw; obtain ⟨-, hS2, -⟩ := hSw; have q0 := ctx_cell0 hS2; obtain ⟨q1, q2, q3, q4, q5, q6, q7, q8, q9⟩ := ctx_cells hS2; clear hS2; go_simp; (try with_reducible rfl))
  try simp only [Act.put, List.setIfInBounds_toArray, List.set_cons_zero, List.set_cons_succ]
  refine takeL (i := 19) (v := ?_) rfl (by kernel_rfl) (by kernel_rfl) (by kernel_rfl) (fun _ _ _ h => h) (by rfl) ?_ (by assumption) ?_
  rotate_left
  · (intro w9 hSw; obtain ⟨-, hS2, -⟩ := hSw; have q0 := ctx_cell0 hS2; obtain ⟨q1, q2, q3, q4, q5, q6, q7, q8, q9⟩ := ctx_cells hS2; clear hS2; go_simp; (try with_reducible rfl))
  try simp only [Act.put, List.setIfInBounds_toArray, List.set_cons_zero, List.set_cons_succ]
  refine takeL (i := 20) (v := ?_) rfl (by kernel_rfl) (by kernel_rfl) (by kernel_rfl) (fun _ _ _ h => h) (by rfl) ?_ (by assumption) ?_
  rotate_left
  · (intro w9 hSw; obtain ⟨-, hS2, -⟩ := hSw; have q0 := ctx_cell0 hS2; obtain ⟨q1, q2, q3, q4, q5, q6, q7, q8, q9⟩ := ctx_cells hS2; clear hS2; go_simp; (try with_reducible rfl))
  try simp only [Act.put, List.setIfInBounds_toArray, List.set_cons_zero, List.set_cons_succ]
  refine takeL (i := 21) (v := ?_) rfl (by kernel_rfl) (by kernel_rfl) (by kernel_rfl) (fun _ _ _ h => h) (by rfl) ?_ (by assumption) ?_
  rotate_left
  · (intro w9 hSw; obtain ⟨-, hS2, -⟩ := hSw; have q0 := ctx_cell0 hS2; obtain ⟨q1, q2, q3, q4, q5, q6, q7, q8, q9⟩ := ctx_cells hS2; clear hS2; go_simp; (try with_reducible rfl))
  try simp only [Act.put, List.setIfInBounds_toArray, List.set_cons_zero, List.set_cons_succ]
  refine takeL (i := 22) (v := ?_) rfl (by kernel_rfl) (by kernel_rfl) (by kernel_rfl) (fun _ _ _ h => h) (by rfl) ?_ (by assumption) ?_
  rotate_left
  · (intro w9 hSw; obtain ⟨-, hS2, -⟩ := hSw; have q0 := ctx_cell0 hS2; obtain ⟨q1, q2, q3, q4, q5, q6, q7, q8, q9⟩ := ctx_cells hS2; clear hS2; go_simp; (try with_reducible rfl))
  try simp only [Act.put, List.setIfInBounds_toArray, List.set_cons_zero, List.set_cons_succ]
  refine takeL (i := 23) (v := ?_) rfl (by kernel_rfl) (by kernel_rfl) (by kernel_rfl) (fun _ _ _ h => h) (by rfl) ?_ (by assumption) ?_
  rotate_left
  · (intro w9 hSw; obtain ⟨-, hS2, -⟩ := hSw; have q0 := ctx_cell0 hS2; obtain ⟨q1, q2, q3, q4, q5, q6, q7, q8, q9⟩ := ctx_cells hS2; clear hS2; go_simp; (try with_reducible rfl))
  try simp only [Act.put, List.setIfInBounds_toArray, List.set_cons_zero, List.set_cons_succ]
  refine takeL (i := 24) (v := ?_) rfl (by kernel_rfl) (by kernel_rfl) (by kernel_rfl) (fun _ _ _ h => h) (by rfl) ?_ (by assumption) ?_
  rotate_left
  · (intro w9 hSw; obtain ⟨-, hS2, -⟩ := hSw; have q0 := ctx_cell0 hS2; obtain ⟨q1, q2, q3, q4, q5, q6, q7, q8, q9⟩ := ctx_cells hS2; clear hS2; go_simp; (try with_reducible rfl))
  try simp only [Act.put, List.setIfInBounds_toArray, List.set_cons_zero, List.set_cons_succ]
  refine takeL (i := 25) (v := ?_) rfl (by kernel_rfl) (by kernel_rfl) (by kernel_rfl) (fun _ _ _ h => h) (by rfl) ?_ (by assumption) ?_
  rotate_left
  · (intro w9 hSw; obtain ⟨-, hS2, -⟩ := hSw; have q0 := ctx_cell0 hS2; obtain ⟨q1, q2, q3, q4, q5, q6, q7, q8, q9⟩ := ctx_cells hS2; clear hS2; go_simp; (try with_reducible rfl))
  try simp only [Act.put, List.setIfInBounds_toArray, List.set_cons_zero, List.set_cons_succ]
  refine takeL (i := 26) (v := ?_) rfl (by kernel_rfl) (by kernel_rfl) (by kernel_rfl) (fun _ _ _ h => h) (by rfl) ?_ (by assumption) ?_
  rotate_left
  · (intro w9 hSw; obtain ⟨-, hS2, -⟩ := hSw; have q0 := ctx_cell0 hS2; obtain ⟨q1, q2, q3, q4, q5, q6, q7, q8, q9⟩ := ctx_cells hS2; clear hS2; go_simp; (try with_reducible rfl))
  try simp only [Act.put, List.setIfInBounds_toArray, List.set_cons_zero, List.set_cons_succ]
  refine takeL (i := 27) (v := ?_) rfl (by kernel_rfl) (by kernel_rfl) (by kernel_rfl) (fun _ _ _ h => h) (by rfl) ?_ (by assumption) ?_
  rotate_left
  · (intro w9 hSw; obtain ⟨-, hS2, -⟩ := hSw; have q0 := ctx_cell0 hS2; obtain ⟨q1, q2, q3, q4, q5, q6, q7, q8, q9⟩ := ctx_cells hS2; clear hS2; go_simp; (try with_reducible rfl))
  try simp only [Act.put, List.setIfInBounds_toArray, List.set_cons_zero, List.set_cons_succ]
  refine takeL (i := 28) (v := ?_) rfl (by kernel_rfl) (by kernel_rfl) (by kernel_rfl) (fun _ _ _ h => h) (by rfl) ?_ (by assumption) ?_
  rotate_left
  · (intro w9 hSw; obtain ⟨-, hS2, -⟩ := hSw; have q0 := ctx_cell0 hS2; obtain ⟨q1, q2, q3, q4, q5, q6, q7, q8, q9⟩ := ctx_cells hS2; clear hS2; go_simp; (try with_reducible rfl))
  try simp only [Act.put, List.setIfInBounds_toArray, List.set_cons_zero, List.set_cons_succ]
  refine takeL (i := 29) (v := ?_) rfl (by kernel_rfl) (by kernel_rfl) (by kernel_rfl) (fun _ _ _ h => h) (by rfl) ?_ (by assumption) ?_
  rotate_left
  · (intro w9 hSw; obtain ⟨-, hS2, -⟩ := hSw; have q0 := ctx_cell0 hS2; obtain ⟨q1, q2, q3, q4, q5, q6, q7, q8, q9⟩ := ctx_cells hS2; clear hS2; go_simp; (try with_reducible rfl))
  try simp only [Act.put, List.setIfInBounds_toArray, List.set_cons_zero, List.set_cons_succ]
  refine takeL (i := 30) (v := ?_) rfl (by kernel_rfl) (by kernel_rfl) (by kernel_rfl) (fun _ _ _ h => h) (by rfl) ?_ (by assumption) ?_
  rotate_left
  · (intro w9 hSw; obtain ⟨-, hS2, -⟩ := hSw; have q0 := ctx_cell0 hS2; obtain ⟨q1, q2, q3, q4, q5, q6, q7, q8, q9⟩ := ctx_cells hS2; clear hS2; go_simp; (try with_reducible rfl))
  try simp only [Act.put, List.setIfInBounds_toArray, List.set_cons_zero, List.set_cons_succ]
  refine takeL (i := 31) (v := ?_) rfl (by kernel_rfl) (by kernel_rfl) (by kernel_rfl) (fun _ _ _ h => h) (by rfl) ?_ (by assumption) ?_
  rotate_left
  · (intro w9 hSw; obtain ⟨-, hS2, -⟩ := hSw; have q0 := ctx_cell0 hS2; obtain ⟨q1, q2, q3, q4, q5, q6, q7, q8, q9⟩ := ctx_cells hS2; clear hS2; go_simp; (try with_reducible rfl))
  try simp only [Act.put, List.setIfInBounds_toArray, List.set_cons_zero, List.set_cons_succ]
  refine takeL (i := 32) (v := ?_) rfl (by kernel_rfl) (by kernel_rfl) (by kernel_rfl) (fun _ _ _ h => h) (by rfl) ?_ (by assumption) ?_
  rotate_left
  · (intro w9 hSw; obtain ⟨-, hS2, -⟩ := hSw; have q0 := ctx_cell0 hS2; obtain ⟨q1, q2, q3, q4, q5, q6, q7, q8, q9⟩ := ctx_cells hS2; clear hS2; go_simp; (try with_reducible rfl))
  try simp only [Act.put, List.setIfInBounds_toArray, List.set_cons_zero, List.set_cons_succ]
  refine takeL (i := 33) (v := ?_) rfl (by kernel_rfl) (by kernel_rfl) (by kernel_rfl) (fun _ _ _ h => h) (by rfl) ?_ (by assumption) ?_
  rotate_left
  · (intro w9 hSw; obtain ⟨-, hS2, -⟩ := hSw; have q0 := ctx_cell0 hS2; obtain ⟨q1, q2, q3, q4, q5, q6, q7, q8, q9⟩ := ctx_cells hS2; clear hS2; go_simp; (try with_reducible rfl))
  try simp only [Act.put, List.setIfInBounds_toArray, List.set_cons_zero, List.set_cons_succ]
  refine takeL (i := 34) (v := ?_) rfl (by kernel_rfl) (by kernel_rfl) (by kernel_rfl) (fun _ _ _ h => h) (by rfl) ?_ (by assumption) ?_
  rotate_left
  · (intro w9 hSw; obtain ⟨-, hS2, -⟩ := hSw; have q0 := ctx_cell0 hS2; obtain ⟨q1, q2, q3, q4, q5, q6, q7, q8, q9⟩ := ctx_cells hS2; clear hS2; go_simp; (try with_reducible rfl))
  try simp only [Act.put, List.setIfInBounds_toArray, List.set_cons_zero, List.set_cons_succ]
  refine takeL (i := 35) (v := ?_) rfl (by kernel_rfl) (by kernel_rfl) (by kernel_rfl) (fun _ _ _ h => h) (by rfl) ?_ (by assumption) ?_
  rotate_left
  · (intro w9 hSw; obtain ⟨-, hS2, -⟩ := hSw; have q0 := ctx_cell0 hS2; obtain ⟨q1, q2, q3, q4, q5, q6, q7, q8, q9⟩ := ctx_cells hS2; clear hS2; go_simp; (try with_reducible rfl))
  try simp only [Act.put, List.setIfInBounds_toArray, List.set_cons_zero, List.set_cons_succ]
  refine takeL (i := 36) (v := ?_) rfl (by kernel_rfl) (by kernel_rfl) (by kernel_rfl) (fun _ _ _ h => h) (by rfl) ?_ (by assumption) ?_
  rotate_left
  · (intro w9 hSw; obtain ⟨-, hS2, -⟩ := hSw; have q0 := ctx_cell0 hS2; obtain ⟨q1, q2, q3, q4, q5, q6, q7, q8, q9⟩ := ctx_cells hS2; clear hS2; go_simp; (try with_reducible rfl))
  try simp only [Act.put, List.setIfInBounds_toArray, List.set_cons_zero, List.set_cons_succ]
  refine wpAnyH_done (by kernel_rfl) ?_ _
  go_wp2_with fail
  go_ret
  exact ⟨rfl, k0.then hHeld.2.2⟩


end Go.Proofs.YtcmagccfagijlaaGreat
