/-
  The examples of the chapter hold.
-/
import Derived.Test.YtldbiohahkcpnaaR3
import Derived.RangeFuncBox
namespace Go.Proofs.Ytldbiohahkcpnaa
set_option linter.unusedVariables false
set_option linter.unusedSimpArgs false
set_option linter.unusedSectionVars false
open Go.RowKit

set_option maxHeartbeats 4000000 in
set_option maxRecDepth 100000 in
theorem works_true (w : World) : Calls Try.prog 15 #[] w fun e w' => e = .returned (.bool true) ∧ Keeps w w' [] := by
  go_enter Try.func15, Try.ntmps15
  go_wp2_with fail
  refine (initial_any _).mono ?_
  rintro e w' ⟨rfl, rfl⟩
  go_wp2_with fail
  refine (ex_o1 _).mono ?_
  rintro e w1 ⟨rfl, kk⟩
  have b1 := (Blk.new (w.alloc (.cells #[.int .i64 1, .int .i64 4, .int .i64 8] 22)) #[.int .i64 1, .int .i64 4, .int .i64 8] 22).keeps kk (by simp)
  have k1 := (((Keeps.refl w []).alloc (.cells #[.int .i64 1, .int .i64 4, .int .i64 8] 22)).alloc (.cells #[.int .i64 1, .int .i64 4, .int .i64 8] 22)).then kk
  simp only [World.size_alloc] at b1
  clear kk
  obtain ⟨c0, c1, c2, -⟩ := b1.three
  have hl1 := b1.lt
  go_wp2_with fail
  refine (ex_o2 _).mono ?_
  rintro e w2 ⟨rfl, kk⟩
  have b2 := (b1.alloc (.cells #[.int .i64 0, .int .i64 0, .int .i64 0] 22)).keeps kk (by simp)
  have k2 := (k1.alloc (.cells #[.int .i64 0, .int .i64 0, .int .i64 0] 22)).then kk
  clear kk c0 c1 c2 b1 k1 hl1
  obtain ⟨c0, c1, c2, -⟩ := b2.three
  have hl1 := b2.lt
  go_wp2_with fail
  refine (ex_v1 _).mono ?_
  rintro e w3 ⟨rfl, kk⟩
  have b3 := (b2.alloc (.cells #[.int .i64 0, .int .i64 0, .int .i64 0] 22)).keeps kk (by simp)
  have k3 := (k2.alloc (.cells #[.int .i64 0, .int .i64 0, .int .i64 0] 22)).then kk
  clear kk c0 c1 c2 b2 k2 hl1
  obtain ⟨c0, c1, c2, -⟩ := b3.three
  have hl1 := b3.lt
  go_wp2_with fail
  refine (ex_v2 _).mono ?_
  rintro e w4 ⟨rfl, kk⟩
  have b4 := (b3.alloc (.cells #[.int .i64 4, .int .i64 1, .int .i64 8] 22)).keeps kk (by simp)
  have k4 := (k3.alloc (.cells #[.int .i64 4, .int .i64 1, .int .i64 8] 22)).then kk
  clear kk c0 c1 c2 b3 k3 hl1
  obtain ⟨c0, c1, c2, -⟩ := b4.three
  have hl1 := b4.lt
  go_wp2_with fail
  refine (ex_v3 _).mono ?_
  rintro e w5 ⟨rfl, kk⟩
  have b5 := (b4.alloc (.cells #[.int .i64 4, .int .i64 1, .int .i64 8] 22)).keeps kk (by simp)
  have k5 := (k4.alloc (.cells #[.int .i64 4, .int .i64 1, .int .i64 8] 22)).then kk
  clear kk c0 c1 c2 b4 k4 hl1
  obtain ⟨c0, c1, c2, -⟩ := b5.three
  have hl1 := b5.lt
  go_wp2_with fail
  refine (ex_v4 _).mono ?_
  rintro e w6 ⟨rfl, kk⟩
  have b6 := (b5.alloc (.cells #[.int .i64 1, .int .i64 1, .int .i64 4] 22)).keeps kk (by simp)
  have k6 := (k5.alloc (.cells #[.int .i64 1, .int .i64 1, .int .i64 4] 22)).then kk
  clear kk c0 c1 c2 b5 k5 hl1
  obtain ⟨c0, c1, c2, -⟩ := b6.three
  have hl1 := b6.lt
  go_wp2_with fail
  have hrd : Reads3 ((w6.alloc (.cells #[.int .i64 0, .int .i64 0, .int .i64 0] 22)).alloc (.cells #[.int .i64 1, .int .i64 0, .int .i64 1, .int .i64 0, .int .i64 0, .int .i64 1, .int .i64 0, .int .i64 0, .int .i64 3] 24))
      (.slice (some ⟨w6.heap.size + 1, 0, none⟩) 3 3) [(1, 0, 1), (0, 0, 1), (0, 0, 3)] := by
    refine ⟨_, _, _, rfl, rfl, fun _ => ⟨by omega, _, _, rfl, by simp, fun i hi => ?_⟩⟩
    have hb := Blk.new (w6.alloc (.cells #[.int .i64 0, .int .i64 0, .int .i64 0] 22)) #[.int .i64 1, .int .i64 0, .int .i64 1, .int .i64 0, .int .i64 0, .int .i64 1, .int .i64 0, .int .i64 0, .int .i64 3] 24
    simp only [World.size_alloc] at hb
    rw [hb.cell]
    have : i = 0 ∨ i = 1 ∨ i = 2 ∨ i = 3 ∨ i = 4 ∨ i = 5 ∨ i = 6 ∨ i = 7 ∨ i = 8 := by omega
    rcases this with rfl | rfl | rfl | rfl | rfl | rfl | rfl | rfl | rfl <;> rfl
  have G := offsets_any 1 4 8 _ _ _ hrd (by simp) (by intro x hx; simp at hx; rcases hx with rfl | rfl | rfl <;> simp)
  rw [ex_list] at G
  refine G.mono ?_
  rintro e w7 ⟨v, rfl, hown, kk⟩
  simp only [List.length_cons, List.length_nil, Nat.zero_add, Nat.reduceAdd] at hown
  obtain ⟨g, cap, rfl⟩ := ownsRow_succ hown
  have r0 : w7.cell? ⟨g, 2, none⟩ = some (.int .i64 1) := hown.cells rfl 2 _ rfl
  have r1 : w7.cell? ⟨g, 5, none⟩ = some (.int .i64 4) := hown.cells rfl 5 _ rfl
  have r2 : w7.cell? ⟨g, 8, none⟩ = some (.int .i64 3) := hown.cells rfl 8 _ rfl
  have hg := (hown.lt g rfl).2
  have b7 := ((b6.alloc (.cells #[.int .i64 0, .int .i64 0, .int .i64 0] 22)).alloc (.cells #[.int .i64 1, .int .i64 0, .int .i64 1, .int .i64 0, .int .i64 0, .int .i64 1, .int .i64 0, .int .i64 0, .int .i64 3] 24)).keeps kk (by simp)
  have k7 := ((k6.alloc (.cells #[.int .i64 0, .int .i64 0, .int .i64 0] 22)).alloc (.cells #[.int .i64 1, .int .i64 0, .int .i64 1, .int .i64 0, .int .i64 0, .int .i64 1, .int .i64 0, .int .i64 0, .int .i64 3] 24)).then kk
  clear kk hown G hrd b6 k6 c0 c1 c2 hl1
  obtain ⟨c0, c1, c2, -⟩ := b7.three
  have hl1 := b7.lt
  go_wp2_with fail
  refine (tells_t1 _).mono ?_
  rintro e w8 ⟨rfl, kk⟩
  have t8 := (Blk.new w7 #[.int .i64 3, .int .i64 4, .int .i64 1] 22).keeps kk (by simp)
  have k8 := (k7.alloc (.cells #[.int .i64 3, .int .i64 4, .int .i64 1] 22)).then kk
  replace r0 : w8.cell? ⟨g, 2, none⟩ = some (.int .i64 1) := (kk.cell (p := ⟨g, 2, none⟩) (by simp; omega) (by simp)).trans ((World.cell?_alloc_lt _ _ _ hg).trans r0)
  replace r1 : w8.cell? ⟨g, 5, none⟩ = some (.int .i64 4) := (kk.cell (p := ⟨g, 5, none⟩) (by simp; omega) (by simp)).trans ((World.cell?_alloc_lt _ _ _ hg).trans r1)
  replace r2 : w8.cell? ⟨g, 8, none⟩ = some (.int .i64 3) := (kk.cell (p := ⟨g, 8, none⟩) (by simp; omega) (by simp)).trans ((World.cell?_alloc_lt _ _ _ hg).trans r2)
  replace hg : g < w8.heap.size := by have := kk.size; simp at this; omega
  clear kk k7 b7 c0 c1 c2 hl1
  go_wp2_with fail
  refine (tells_t2 _).mono ?_
  rintro e w9 ⟨rfl, kk⟩
  have t9 := t8.keeps kk (by simp)
  have k9 := k8.then kk
  replace r0 := (kk.cell (p := ⟨g, 2, none⟩) hg (by simp)).trans r0
  replace r1 := (kk.cell (p := ⟨g, 5, none⟩) hg (by simp)).trans r1
  replace r2 := (kk.cell (p := ⟨g, 8, none⟩) hg (by simp)).trans r2
  replace hg : g < w9.heap.size := by have := kk.size; omega
  clear kk k8 t8
  go_wp2_with fail
  refine (tells_t3 _).mono ?_
  rintro e w10 ⟨rfl, kk⟩
  have t10 := t9.keeps kk (by simp)
  have k10 := k9.then kk
  replace r0 := (kk.cell (p := ⟨g, 2, none⟩) hg (by simp)).trans r0
  replace r1 := (kk.cell (p := ⟨g, 5, none⟩) hg (by simp)).trans r1
  replace r2 := (kk.cell (p := ⟨g, 8, none⟩) hg (by simp)).trans r2
  clear kk k9 t9 hg
  obtain ⟨c0, c1, c2, -⟩ := t10.three
  go_wp2_with (go_at_call 14; go_in)
  go_ret
  exact ⟨rfl, k10⟩

end Go.Proofs.Ytldbiohahkcpnaa
