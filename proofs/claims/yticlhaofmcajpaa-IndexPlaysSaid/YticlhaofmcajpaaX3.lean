/-
  The law's helpers is and few.
-/
import Derived.Test.YticlhaofmcajpaaX1
import Derived.Test.YticlhaofmcajpaaHeld
namespace Go.Proofs.Yticlhaofmcajpaa
set_option linter.unusedVariables false
set_option linter.unusedSimpArgs false
set_option linter.unusedSectionVars false
open Go.RowKit

theorem findV_places (K : Nat) (B l : List Int) : findV K B l = (placesL K B l).head? := by
  unfold findV placesL
  split
  · exact lastN_head K B _ _
  · rfl
theorem countV_places (K : Nat) (B l : List Int) : countV K B l = ((placesL K B l).length : Int) := by
  unfold countV placesL
  split <;> rfl

theorem holdS2 {w w' : World} {a b : Addr} {c d : Value} (hc : w.cell? a = some c) (hd : w.cell? b = some d) (hl : a.block < w.heap.size) (hl2 : b.block < w.heap.size) (kk : Keeps w w' []) : w'.cell? a = some c ∧ w'.cell? b = some d ∧ Keeps w w' [] := ⟨(kk.cell hl (by simp)).trans hc, (kk.cell hl2 (by simp)).trans hd, kk⟩

set_option maxRecDepth 100000 in
set_option maxHeartbeats 8000000 in
theorem is_any (p K : Nat) (B l : List Int) (vB vl : Value) (S : List Nat) (a z : Int) (w : World) (h : Idx w p K B S) (hB : RdI .u8 w vB B) (hl : RdI .u8 w vl l) (hlb : ∀ x ∈ l, 0 ≤ x ∧ x ≤ 255) :
    Calls Try.prog 25 #[.pointer (some ⟨p, 0, none⟩), .agg #[.int .i64 (K : Int), vB], .int .i64 a, .int .i64 z, vl] w fun e w' => e = .returned (.bool true) ∧ Keeps w w' [] := by
  obtain ⟨A, n, c, rfl, hn, -⟩ := hB.form
  obtain ⟨A2, n2, c2, rfl, hn2, -⟩ := hl.form
  have hBl := h.2.len
  have bX := Blk.new w #[.int .i64 (K : Int), .slice A n c] 29
  have kX : Keeps w (w.alloc (.cells #[.int .i64 (K : Int), .slice A n c] 29)) [] := (Keeps.refl w []).alloc _
  have GP := Lib.hid (fun w' (k : Keeps w w' []) => prevV_chain K B a ▸ previous_any p K B S a w' (h.keep k))
  have GF := Lib.hid (fun w' (k : Keeps w w' []) => findV_places K B l ▸ find_any p K B l _ S w' (h.keep k) (hl.keeps k) hlb)
  have GC := Lib.hid (fun w' (k : Keeps w w' []) => countV_places K B l ▸ count_any p K B l _ S w' (h.keep k) (hl.keeps k) hlb)
  have GB := Lib.hid (fun w' (k : Keeps w w' []) => bytes_any p K B a z S w' (h.keep k))
  have GL := Lib.hid (fun w' (k : Keeps w w' []) => len_any p K B S w' (h.keep k))
  have GK := Lib.hid (fun w' (k : Keeps w w' []) => keylen_any p K B S w' (h.keep k))
  have RC := Lib.hid (fun w' (k : Keeps w w' []) => r_chain K (.slice A n c) B a w' (hB.keeps k) h.2)
  have RP := Lib.hid (fun w' (k : Keeps w w' []) => r_places K (.slice A n c) (.slice A2 n2 c2) B l w' (hB.keeps k) (hl.keeps k) h.2 hlb)
  have RB := Lib.hid (fun w' (k : Keeps w w' []) => r_bytes K (.slice A n c) B a z w' (hB.keeps k) hBl)
  have hST : Hid (∀ (v : Value) (l : List Int) (w' : World), RdI .u8 w' v l → (convert 22 9 v).run Try.prog w' = .ok (.string (strOfNums l)) w') := fun v l w' k => str_of k Try.underlying22 Try.underlying5 Try.underlying9
  have HN : Hid ((B.length : Int) = (n : Int)) := by show _ = _; omega
  have g0 := bX.cell 0
  have g1 := bX.cell 1
  have lX := bX.lt
  clear h hB hl hn hn2 hBl
  generalize refChain K B a = C at *
  generalize placesL K B l = P at *
  generalize bytesL B a z = Y at *
  go_enter Try.func25, Try.ntmps25
  go_wp2_with fail
  refine (GP.out _ kX).mono ?_
  rintro e w' ⟨rfl, rfl⟩
  unfold optV
  go_wp2_with fail
  refine (RC.out _ kX).mono ?_
  rintro e w1 ⟨v1, rfl, r1, k1, -⟩
  go_wp2_with fail
  refine (r_first v1 C w1 r1).mono ?_
  rintro e w' ⟨rfl, rfl⟩
  unfold optV
  have kX1 := kX.then k1
  go_wp2_with fail
  refine (GF.out _ kX1).mono ?_
  rintro e w2 ⟨rfl, k2⟩
  unfold optV
  have kX2 := kX1.then k2
  have kk2 := k1.then k2
  have b2 := bX.keeps kk2 (by simp)
  obtain ⟨h0, h1⟩ := (⟨b2.cell 0, b2.cell 1⟩ : _ ∧ _)
  go_wp2_with fail
  refine (RP.out _ kX2).mono ?_
  rintro e w3 ⟨v3, rfl, r3, k3⟩
  obtain ⟨A3, n3, c3, rfl, hn3, -⟩ := r3.form
  have HN3 := Lib.hid hn3
  have kX3 := kX2.then k3
  have b3 := b2.keeps k3 (by simp)
  clear h0 h1 hn3
  obtain ⟨h0, h1⟩ := (⟨b3.cell 0, b3.cell 1⟩ : _ ∧ _)
  go_wp2_with fail
  refine (r_first _ P w3 r3).mono ?_
  rintro e w' ⟨rfl, rfl⟩
  unfold optV
  go_wp2_with fail
  have lX3 : w.heap.size < w3.heap.size := b3.lt
  have kr := Keeps.refl w3 []
  have heq : ∀ x : Int, (x == x) = true := by simp
  have hbq : ∀ x : Bool, (x == x) = true := by simp
  clear GP GF RC RP bX b2 b3 k1 k2 k3 kk2 kX kX1 kX2 r1 r3 lX g0 g1
  refine wp_region_held_drew (S := (fun w' => w'.cell? ⟨w.heap.size, 0, none⟩ = some (.int .i64 (K : Int)) ∧ w'.cell? ⟨w.heap.size, 1, none⟩ = some (.slice A n c) ∧ Keeps w3 w' [])) (by kernel_rfl) (holdS2 h0 h1 lX3 lX3 ((Keeps.refl w3 []).drew)) (fun hHeld => ?_)
  refine takeL (i := 0) (v := ?v0) rfl (by kernel_rfl) (by kernel_rfl) (by kernel_rfl) (fun _ _ _ h => h) (by rfl) ?hy0 (by assumption) ?_
  case hy0 => (intro w hSw; (try dsimp only at hSw); go_simp; (try with_reducible rfl))
  try simp only [Act.put, List.setIfInBounds_toArray, List.set_cons_zero, List.set_cons_succ]
  refine takeL (i := 2) (v := ?v2) rfl (by kernel_rfl) (by kernel_rfl) (by kernel_rfl) (fun _ _ _ h => h) (by rfl) ?hy2 (by assumption) ?_
  case hy2 => (intro w hSw; (try dsimp only at hSw); go_simp; (try with_reducible rfl))
  try simp only [Act.put, List.setIfInBounds_toArray, List.set_cons_zero, List.set_cons_succ]
  refine takeL (i := 3) (v := ?v3) rfl (by kernel_rfl) (by kernel_rfl) (by kernel_rfl) (fun _ _ _ h => h) (by rfl) ?hy3 (by assumption) ?_
  case hy3 => (intro w hSw; (try dsimp only at hSw); go_simp; (try with_reducible rfl))
  try simp only [Act.put, List.setIfInBounds_toArray, List.set_cons_zero, List.set_cons_succ]
  refine takeL (i := 4) (v := ?v4) rfl (by kernel_rfl) (by kernel_rfl) (by kernel_rfl) (fun _ _ _ h => h) (by rfl) ?hy4 (by assumption) ?_
  case hy4 => (intro w hSw; (try dsimp only at hSw); go_simp; (try with_reducible rfl))
  try simp only [Act.put, List.setIfInBounds_toArray, List.set_cons_zero, List.set_cons_succ]
  refine callL (i := 1) rfl (by kernel_rfl) (fun Kont hK => ?_)
  go_simp
  go_at_call 22; refine (GL.out _ (kX3.then hHeld.2.2)).mono ?_; rintro e w' ⟨rfl, rfl⟩; rw [HN.out]
  go_wp2_with fail
  refine hK.out _ _ ?hS1 (fun hHeld => ?_)
  case hS1 => (exact hHeld)
  clear hK Kont
  refine takeL (i := 5) (v := ?v5) rfl (by kernel_rfl) (by kernel_rfl) (by kernel_rfl) (fun _ _ _ h => h) (by rfl) ?hy5 (by assumption) ?_
  case hy5 => (intro w hSw; (try dsimp only at hSw); go_simp; (try with_reducible rfl))
  try simp only [Act.put, List.setIfInBounds_toArray, List.set_cons_zero, List.set_cons_succ]
  refine takeL (i := 6) (v := ?v6) rfl (by kernel_rfl) (by kernel_rfl) (by kernel_rfl) (fun _ _ _ h => h) (by rfl) ?hy6 (by assumption) ?_
  case hy6 => (intro w hSw; (try dsimp only at hSw); go_simp; (try with_reducible rfl))
  try simp only [Act.put, List.setIfInBounds_toArray, List.set_cons_zero, List.set_cons_succ]
  refine takeL (i := 7) (v := ?v7) rfl (by kernel_rfl) (by kernel_rfl) (by kernel_rfl) (fun _ _ _ h => h) (by rfl) ?hy7 (by assumption) ?_
  case hy7 => (intro w hSw; (try dsimp only at hSw); go_simp; (try with_reducible rfl))
  try simp only [Act.put, List.setIfInBounds_toArray, List.set_cons_zero, List.set_cons_succ]
  refine takeL (i := 9) (v := ?v9) rfl (by kernel_rfl) (by kernel_rfl) (by kernel_rfl) (fun _ _ _ h => h) (by rfl) ?hy9 (by assumption) ?_
  case hy9 => (intro w hSw; (try dsimp only at hSw); go_simp; (try with_reducible rfl))
  try simp only [Act.put, List.setIfInBounds_toArray, List.set_cons_zero, List.set_cons_succ]
  refine takeL (i := 10) (v := ?v10) rfl (by kernel_rfl) (by kernel_rfl) (by kernel_rfl) (fun _ _ _ h => h) (by rfl) ?hy10 (by assumption) ?_
  case hy10 => (intro w hSw; (try dsimp only at hSw); go_simp; (try with_reducible rfl))
  try simp only [Act.put, List.setIfInBounds_toArray, List.set_cons_zero, List.set_cons_succ]
  refine callL (i := 8) rfl (by kernel_rfl) (fun Kont hK => ?_)
  go_simp
  go_at_call 39; refine (GK.out _ (kX3.then hHeld.2.2)).mono ?_; rintro e w' ⟨rfl, rfl⟩
  go_wp2_with fail
  refine hK.out _ _ ?hS8 (fun hHeld => ?_)
  case hS8 => (exact hHeld)
  clear hK Kont
  refine takeL (i := 11) (v := ?v11) rfl (by kernel_rfl) (by kernel_rfl) (by kernel_rfl) (fun _ _ _ h => h) (by rfl) ?hy11 (by assumption) ?_
  case hy11 => (intro w hSw; (try dsimp only at hSw); go_simp; (try with_reducible rfl))
  try simp only [Act.put, List.setIfInBounds_toArray, List.set_cons_zero, List.set_cons_succ]
  refine takeL (i := 12) (v := ?v12) rfl (by kernel_rfl) (by kernel_rfl) (by kernel_rfl) (fun _ _ _ h => h) (by rfl) ?hy12 (by assumption) ?_
  case hy12 => (intro w hSw; (try dsimp only at hSw); go_simp; (try with_reducible rfl))
  try simp only [Act.put, List.setIfInBounds_toArray, List.set_cons_zero, List.set_cons_succ]
  refine takeL (i := 13) (v := ?v13) rfl (by kernel_rfl) (by kernel_rfl) (by kernel_rfl) (fun _ _ _ h => h) (by rfl) ?hy13 (by assumption) ?_
  case hy13 => (intro w hSw; (try dsimp only at hSw); go_simp; (try with_reducible rfl))
  try simp only [Act.put, List.setIfInBounds_toArray, List.set_cons_zero, List.set_cons_succ]
  refine takeL (i := 14) (v := ?v14) rfl (by kernel_rfl) (by kernel_rfl) (by kernel_rfl) (fun _ _ _ h => h) (by rfl) ?hy14 (by assumption) ?_
  case hy14 => (intro w hSw; (try dsimp only at hSw); go_simp; (try with_reducible rfl))
  try simp only [Act.put, List.setIfInBounds_toArray, List.set_cons_zero, List.set_cons_succ]
  refine takeL (i := 15) (v := ?v15) rfl (by kernel_rfl) (by kernel_rfl) (by kernel_rfl) (fun _ _ _ h => h) (by rfl) ?hy15 (by assumption) ?_
  case hy15 => (intro w hSw; (try dsimp only at hSw); go_simp; (try with_reducible rfl))
  try simp only [Act.put, List.setIfInBounds_toArray, List.set_cons_zero, List.set_cons_succ]
  refine takeL (i := 16) (v := ?v16) rfl (by kernel_rfl) (by kernel_rfl) (by kernel_rfl) (fun _ _ _ h => h) (by rfl) ?hy16 (by assumption) ?_
  case hy16 => (intro w hSw; (try dsimp only at hSw); go_simp; (try with_reducible rfl))
  try simp only [Act.put, List.setIfInBounds_toArray, List.set_cons_zero, List.set_cons_succ]
  refine takeL (i := 17) (v := ?v17) rfl (by kernel_rfl) (by kernel_rfl) (by kernel_rfl) (fun _ _ _ h => h) (by rfl) ?hy17 (by assumption) ?_
  case hy17 => (intro w hSw; (try dsimp only at hSw); go_simp; (try with_reducible rfl))
  try simp only [Act.put, List.setIfInBounds_toArray, List.set_cons_zero, List.set_cons_succ]
  refine takeL (i := 18) (v := ?v18) rfl (by kernel_rfl) (by kernel_rfl) (by kernel_rfl) (fun _ _ _ h => h) (by rfl) ?hy18 (by assumption) ?_
  case hy18 => (intro w hSw; (try dsimp only at hSw); go_simp; (try with_reducible rfl))
  try simp only [Act.put, List.setIfInBounds_toArray, List.set_cons_zero, List.set_cons_succ]
  refine takeL (i := 19) (v := ?v19) rfl (by kernel_rfl) (by kernel_rfl) (by kernel_rfl) (fun _ _ _ h => h) (by rfl) ?hy19 (by assumption) ?_
  case hy19 => (intro w hSw; (try dsimp only at hSw); go_simp; (try with_reducible rfl))
  try simp only [Act.put, List.setIfInBounds_toArray, List.set_cons_zero, List.set_cons_succ]
  refine takeL (i := 20) (v := ?v20) rfl (by kernel_rfl) (by kernel_rfl) (by kernel_rfl) (fun _ _ _ h => h) (by rfl) ?hy20 (by assumption) ?_
  case hy20 => (intro w hSw; (try dsimp only at hSw); go_simp; (try with_reducible rfl))
  try simp only [Act.put, List.setIfInBounds_toArray, List.set_cons_zero, List.set_cons_succ]
  refine takeL (i := 21) (v := ?v21) rfl (by kernel_rfl) (by kernel_rfl) (by kernel_rfl) (fun _ _ _ h => h) (by rfl) ?hy21 (by assumption) ?_
  case hy21 => (intro w hSw; (try dsimp only at hSw); go_simp; (try with_reducible rfl))
  try simp only [Act.put, List.setIfInBounds_toArray, List.set_cons_zero, List.set_cons_succ]
  refine takeL (i := 22) (v := ?v22) rfl (by kernel_rfl) (by kernel_rfl) (by kernel_rfl) (fun _ _ _ h => h) (by rfl) ?hy22 (by assumption) ?_
  case hy22 => (intro w hSw; (try dsimp only at hSw); go_simp; (try with_reducible rfl))
  try simp only [Act.put, List.setIfInBounds_toArray, List.set_cons_zero, List.set_cons_succ]
  refine takeL (i := 23) (v := ?v23) rfl (by kernel_rfl) (by kernel_rfl) (by kernel_rfl) (fun _ _ _ h => h) (by rfl) ?hy23 (by assumption) ?_
  case hy23 => (intro w hSw; (try dsimp only at hSw); go_simp; (try with_reducible rfl))
  try simp only [Act.put, List.setIfInBounds_toArray, List.set_cons_zero, List.set_cons_succ]
  refine takeL (i := 24) (v := ?v24) rfl (by kernel_rfl) (by kernel_rfl) (by kernel_rfl) (fun _ _ _ h => h) (by rfl) ?hy24 (by assumption) ?_
  case hy24 => (intro w hSw; (try dsimp only at hSw); go_simp; (try with_reducible rfl))
  try simp only [Act.put, List.setIfInBounds_toArray, List.set_cons_zero, List.set_cons_succ]
  refine takeL (i := 25) (v := ?v25) rfl (by kernel_rfl) (by kernel_rfl) (by kernel_rfl) (fun _ _ _ h => h) (by rfl) ?hy25 (by assumption) ?_
  case hy25 => (intro w hSw; (try dsimp only at hSw); go_simp; (try with_reducible rfl))
  try simp only [Act.put, List.setIfInBounds_toArray, List.set_cons_zero, List.set_cons_succ]
  refine takeL (i := 26) (v := ?v26) rfl (by kernel_rfl) (by kernel_rfl) (by kernel_rfl) (fun _ _ _ h => h) (by rfl) ?hy26 (by assumption) ?_
  case hy26 => (intro w hSw; (try dsimp only at hSw); go_simp; (try with_reducible rfl))
  try simp only [Act.put, List.setIfInBounds_toArray, List.set_cons_zero, List.set_cons_succ]
  refine takeL (i := 27) (v := ?v27) rfl (by kernel_rfl) (by kernel_rfl) (by kernel_rfl) (fun _ _ _ h => h) (by rfl) ?hy27 (by assumption) ?_
  case hy27 => (intro w hSw; (try dsimp only at hSw); go_simp; (try with_reducible rfl))
  try simp only [Act.put, List.setIfInBounds_toArray, List.set_cons_zero, List.set_cons_succ]
  refine takeL (i := 28) (v := ?v28) rfl (by kernel_rfl) (by kernel_rfl) (by kernel_rfl) (fun _ _ _ h => h) (by rfl) ?hy28 (by assumption) ?_
  case hy28 => (intro w hSw; (try dsimp only at hSw); go_simp; (try with_reducible rfl))
  try simp only [Act.put, List.setIfInBounds_toArray, List.set_cons_zero, List.set_cons_succ]
  refine takeL (i := 29) (v := ?v29) rfl (by kernel_rfl) (by kernel_rfl) (by kernel_rfl) (fun _ _ _ h => h) (by rfl) ?hy29 (by assumption) ?_
  case hy29 => (intro w hSw; (try dsimp only at hSw); go_simp; (try with_reducible rfl))
  try simp only [Act.put, List.setIfInBounds_toArray, List.set_cons_zero, List.set_cons_succ]
  refine takeL (i := 30) (v := ?v30) rfl (by kernel_rfl) (by kernel_rfl) (by kernel_rfl) (fun _ _ _ h => h) (by rfl) ?hy30 (by assumption) ?_
  case hy30 => (intro w hSw; (try dsimp only at hSw); go_simp; (try with_reducible rfl))
  try simp only [Act.put, List.setIfInBounds_toArray, List.set_cons_zero, List.set_cons_succ]
  refine takeL (i := 31) (v := ?v31) rfl (by kernel_rfl) (by kernel_rfl) (by kernel_rfl) (fun _ _ _ h => h) (by rfl) ?hy31 (by assumption) ?_
  case hy31 => (intro w hSw; (try dsimp only at hSw); go_simp; (try with_reducible rfl))
  try simp only [Act.put, List.setIfInBounds_toArray, List.set_cons_zero, List.set_cons_succ]
  refine takeL (i := 32) (v := ?v32) rfl (by kernel_rfl) (by kernel_rfl) (by kernel_rfl) (fun _ _ _ h => h) (by rfl) ?hy32 (by assumption) ?_
  case hy32 => (intro w hSw; (try dsimp only at hSw); go_simp; (try with_reducible rfl))
  try simp only [Act.put, List.setIfInBounds_toArray, List.set_cons_zero, List.set_cons_succ]
  refine takeL (i := 33) (v := ?v33) rfl (by kernel_rfl) (by kernel_rfl) (by kernel_rfl) (fun _ _ _ h => h) (by rfl) ?hy33 (by assumption) ?_
  case hy33 => (intro w hSw; (try dsimp only at hSw); go_simp; (try with_reducible rfl))
  try simp only [Act.put, List.setIfInBounds_toArray, List.set_cons_zero, List.set_cons_succ]
  refine takeL (i := 34) (v := ?v34) rfl (by kernel_rfl) (by kernel_rfl) (by kernel_rfl) (fun _ _ _ h => h) (by rfl) ?hy34 (by assumption) ?_
  case hy34 => (intro w hSw; (try dsimp only at hSw); go_simp; (try with_reducible rfl))
  try simp only [Act.put, List.setIfInBounds_toArray, List.set_cons_zero, List.set_cons_succ]
  refine takeL (i := 35) (v := ?v35) rfl (by kernel_rfl) (by kernel_rfl) (by kernel_rfl) (fun _ _ _ h => h) (by rfl) ?hy35 (by assumption) ?_
  case hy35 => (intro w hSw; (try dsimp only at hSw); go_simp; (try with_reducible rfl))
  try simp only [Act.put, List.setIfInBounds_toArray, List.set_cons_zero, List.set_cons_succ]
  refine takeL (i := 37) (v := ?v37) rfl (by kernel_rfl) (by kernel_rfl) (by kernel_rfl) (fun _ _ _ h => h) (by rfl) ?hy37 (by assumption) ?_
  case hy37 => (intro w hSw; (try dsimp only at hSw); go_simp; (try with_reducible rfl))
  try simp only [Act.put, List.setIfInBounds_toArray, List.set_cons_zero, List.set_cons_succ]
  refine takeL (i := 38) (v := ?v38) rfl (by kernel_rfl) (by kernel_rfl) (by kernel_rfl) (fun _ _ _ h => h) (by rfl) ?hy38 (by assumption) ?_
  case hy38 => (intro w hSw; (try dsimp only at hSw); go_simp; (try with_reducible rfl))
  try simp only [Act.put, List.setIfInBounds_toArray, List.set_cons_zero, List.set_cons_succ]
  refine callL (i := 36) rfl (by kernel_rfl) (fun Kont hK => ?_)
  go_simp
  go_at_call 27; refine (GC.out _ (kX3.then hHeld.2.2)).mono ?_; rintro e w9 ⟨rfl, k9⟩; rw [← HN3.out]; have q9 := hHeld.2.2.then k9
  go_wp2_with fail
  refine hK.out _ _ ?hS36 (fun hHeld => ?_)
  case hS36 => (exact holdS2 h0 h1 lX3 lX3 q9)
  clear hK Kont
  refine takeL (i := 39) (v := ?v39) rfl (by kernel_rfl) (by kernel_rfl) (by kernel_rfl) (fun _ _ _ h => h) (by rfl) ?hy39 (by assumption) ?_
  case hy39 => (intro w hSw; (try dsimp only at hSw); go_simp; (try with_reducible rfl))
  try simp only [Act.put, List.setIfInBounds_toArray, List.set_cons_zero, List.set_cons_succ]
  refine takeL (i := 40) (v := ?v40) rfl (by kernel_rfl) (by kernel_rfl) (by kernel_rfl) (fun _ _ _ h => h) (by rfl) ?hy40 (by assumption) ?_
  case hy40 => (intro w hSw; (try dsimp only at hSw); go_simp; (try with_reducible rfl))
  try simp only [Act.put, List.setIfInBounds_toArray, List.set_cons_zero, List.set_cons_succ]
  refine takeL (i := 41) (v := ?v41) rfl (by kernel_rfl) (by kernel_rfl) (by kernel_rfl) (fun _ _ _ h => h) (by rfl) ?hy41 (by assumption) ?_
  case hy41 => (intro w hSw; (try dsimp only at hSw); go_simp; (try with_reducible rfl))
  try simp only [Act.put, List.setIfInBounds_toArray, List.set_cons_zero, List.set_cons_succ]
  refine takeL (i := 42) (v := ?v42) rfl (by kernel_rfl) (by kernel_rfl) (by kernel_rfl) (fun _ _ _ h => h) (by rfl) ?hy42 (by assumption) ?_
  case hy42 => (intro w hSw; (try dsimp only at hSw); go_simp; (try with_reducible rfl))
  try simp only [Act.put, List.setIfInBounds_toArray, List.set_cons_zero, List.set_cons_succ]
  refine takeL (i := 43) (v := ?v43) rfl (by kernel_rfl) (by kernel_rfl) (by kernel_rfl) (fun _ _ _ h => h) (by rfl) ?hy43 (by assumption) ?_
  case hy43 => (intro w hSw; (try dsimp only at hSw); go_simp; (try with_reducible rfl))
  try simp only [Act.put, List.setIfInBounds_toArray, List.set_cons_zero, List.set_cons_succ]
  refine takeL (i := 44) (v := ?v44) rfl (by kernel_rfl) (by kernel_rfl) (by kernel_rfl) (fun _ _ _ h => h) (by rfl) ?hy44 (by assumption) ?_
  case hy44 => (intro w hSw; (try dsimp only at hSw); go_simp; (try with_reducible rfl))
  try simp only [Act.put, List.setIfInBounds_toArray, List.set_cons_zero, List.set_cons_succ]
  refine takeL (i := 47) (v := ?v47) rfl (by kernel_rfl) (by kernel_rfl) (by kernel_rfl) (fun _ _ _ h => h) (by rfl) ?hy47 (by assumption) ?_
  case hy47 => (intro w hSw; (try dsimp only at hSw); go_simp; (try with_reducible rfl))
  try simp only [Act.put, List.setIfInBounds_toArray, List.set_cons_zero, List.set_cons_succ]
  refine takeL (i := 48) (v := ?v48) rfl (by kernel_rfl) (by kernel_rfl) (by kernel_rfl) (fun _ _ _ h => h) (by rfl) ?hy48 (by assumption) ?_
  case hy48 => (intro w hSw; (try dsimp only at hSw); go_simp; (try with_reducible rfl))
  try simp only [Act.put, List.setIfInBounds_toArray, List.set_cons_zero, List.set_cons_succ]
  refine takeL (i := 49) (v := ?v49) rfl (by kernel_rfl) (by kernel_rfl) (by kernel_rfl) (fun _ _ _ h => h) (by rfl) ?hy49 (by assumption) ?_
  case hy49 => (intro w hSw; (try dsimp only at hSw); go_simp; (try with_reducible rfl))
  try simp only [Act.put, List.setIfInBounds_toArray, List.set_cons_zero, List.set_cons_succ]
  refine callL (i := 45) rfl (by kernel_rfl) (fun Kont hK => ?_)
  go_simp
  go_at_call 23; refine (GB.out _ (kX3.then hHeld.2.2)).mono ?_; rintro e w4 ⟨v4, rfl, r4, k4⟩; have q4 := hHeld.2.2.then k4
  go_wp2_with fail
  refine hK.out _ _ ?hS45 (fun hHeld => ?_)
  case hS45 => (exact holdS2 h0 h1 lX3 lX3 q4)
  clear hK Kont
  refine wpAnyH_stronger (S2 := fun w' => Keeps w4 w' []) (fun w' h => holdS2 h0 h1 lX3 lX3 (q4.then h)) ?_
  have hHeld4 := Keeps.refl w4 []
  have hs4 : ∀ w', Keeps w4 w' [] → (convert 22 9 v4).run Try.prog w' = .ok (.string (strOfNums Y)) w' := fun w' k => hST.out v4 Y w' (r4.keeps k)
  refine takeL (i := 46) (v := ?v46) rfl (by kernel_rfl) (by kernel_rfl) (by kernel_rfl) (fun _ _ _ h => h) (by rfl) ?hy46 (by assumption) ?_
  case hy46 => (intro w hSw; (try dsimp only at hSw); go_simp; (try with_reducible rfl))
  try simp only [Act.put, List.setIfInBounds_toArray, List.set_cons_zero, List.set_cons_succ]
  refine callL (i := 50) rfl (by kernel_rfl) (fun Kont hK => ?_)
  go_simp
  go_at_call 40; refine (RB.out _ (kX3.then q4)).mono ?_; rintro e w5 ⟨v5, rfl, r5, k5⟩
  go_wp2_with fail
  refine hK.out _ _ ?hS50 (fun hHeld => ?_)
  case hS50 => (exact k5)
  clear hK Kont
  refine wpAnyH_stronger (S2 := fun w' => Keeps w5 w' []) (fun w' h => k5.then h) ?_
  have hHeld5 := Keeps.refl w5 []
  have hs5 : ∀ w', Keeps w5 w' [] → (convert 22 9 v5).run Try.prog w' = .ok (.string (strOfNums Y)) w' := fun w' k => hST.out v5 Y w' (r5.keeps k)
  refine takeL (i := 51) (v := ?v51) rfl (by kernel_rfl) (by kernel_rfl) (by kernel_rfl) (fun _ _ _ h => h) (by rfl) ?hy51 (by assumption) ?_
  case hy51 => (intro w hSw; (try dsimp only at hSw); go_simp; (try with_reducible rfl))
  try simp only [Act.put, List.setIfInBounds_toArray, List.set_cons_zero, List.set_cons_succ]
  refine takeL (i := 52) (v := ?v52) rfl (by kernel_rfl) (by kernel_rfl) (by kernel_rfl) (fun _ _ _ h => h) (by rfl) ?hy52 (by assumption) ?_
  case hy52 => (intro w hSw; (try dsimp only at hSw); go_simp; (try with_reducible rfl))
  try simp only [Act.put, List.setIfInBounds_toArray, List.set_cons_zero, List.set_cons_succ]
  refine takeL (i := 53) (v := ?v53) rfl (by kernel_rfl) (by kernel_rfl) (by kernel_rfl) (fun _ _ _ h => h) (by rfl) ?hy53 (by assumption) ?_
  case hy53 => (intro w hSw; (try dsimp only at hSw); go_simp; (try with_reducible rfl))
  try simp only [Act.put, List.setIfInBounds_toArray, List.set_cons_zero, List.set_cons_succ]
  refine takeL (i := 54) (v := ?v54) rfl (by kernel_rfl) (by kernel_rfl) (by kernel_rfl) (fun _ _ _ h => h) (by rfl) ?hy54 (by assumption) ?_
  case hy54 => (intro w hSw; (try dsimp only at hSw); go_simp; (try with_reducible rfl))
  try simp only [Act.put, List.setIfInBounds_toArray, List.set_cons_zero, List.set_cons_succ]
  refine wpAnyH_done (by kernel_rfl) ?_ _
  go_wp2_with fail
  go_ret
  exact ⟨rfl, kX3.then (q4.then k5)⟩

/-- Are there at most so many pieces of at most 100 bytes each? -/
def fewB (ls : List (List Int)) (most : Nat) : Bool := decide (ls.length ≤ most) && ls.all (fun l => decide (l.length ≤ 100))
theorem fewB_true {ls : List (List Int)} {most : Nat} (h : fewB ls most = true) : ls.length ≤ most ∧ ∀ l ∈ ls, l.length ≤ 100 := by
  simpa [fewB] using h

set_option maxHeartbeats 2000000 in
theorem few_any (ls : List (List Int)) (v : Value) (most : Nat) (w : World) (h : RdL .u8 w v ls) (hmost : most ≤ 1000000) :
    Calls Try.prog 21 #[v, .int .i64 most] w fun e w' => e = .returned (.bool (fewB ls most)) ∧ w = w' := by
  obtain ⟨A0, n, c, rfl, hn, -⟩ := h.form
  by_cases hm : most < n
  · have hf : Hid (fewB ls most = false) := by show _ = _; simp [fewB]; omega
    have h1 : (most : Int) < (n : Int) := by omega
    clear h hn
    go_enter Try.func21, Try.ntmps21
    go_wp2_with fail
    go_ret
    exact ⟨ret_bool hf.out.symm, rfl⟩
  · have hd : decide ((most : Int) < (n : Int)) = false := decide_eq_false (by omega)
    have hd2 : decide (most < n) = false := decide_eq_false (by omega)
    have hnm : n ≤ 1000000 := by omega
    have H := Lib.hid h
    have HN := Lib.hid hn
    have hall : Hid (fewB ls most = ls.all (fun l => decide (l.length ≤ 100))) := by show _ = _; simp [fewB]; intro; omega
    clear h hn
    go_enter Try.func21, Try.ntmps21
    go_wp2_with fail
    go_loopw [5] (fun s5 wr => wr = w ∧ ∃ i : Nat, i ≤ n ∧ s5 = .int .i64 i ∧ Hid (∀ j, j < i → ∀ l, ls[j]? = some l → l.length ≤ 100)) (fun s5 _ => n - (intOf s5).toNat)
    case atStart => exact ⟨rfl, 0, Nat.zero_le _, rfl, fun j hj => absurd hj (by omega)⟩
    case round =>
      obtain ⟨hw0, i, hi, rfl, hdone⟩ := hrel
      subst hw0
      by_cases hlt : i < n
      · obtain ⟨l, hl⟩ : ∃ l, ls[i]? = some l := ⟨_, List.getElem?_eq_getElem (by have := HN.out; omega)⟩
        obtain ⟨b, o, vi, rfl, hb, hc, hv, hcap⟩ := H.out.at hl
        obtain ⟨A1, n1, c1, rfl, hn1, -⟩ := hv.form
        have hlti : (i : Int) < (n : Int) := by omega
        have hi0 : (0 : Int) ≤ (i : Int) := Int.natCast_nonneg _
        have HL := Lib.hid hl
        have HN1 := Lib.hid hn1
        clear hl hn1 hv
        by_cases h100 : 100 < n1
        · have hf : Hid (fewB ls most = false) := by
            show _ = _
            rw [hall.out]
            cases ha : ls.all (fun l => decide (l.length ≤ 100)) with
            | false => rfl
            | true =>
              have := List.all_eq_true.1 ha l (List.mem_of_getElem? HL.out)
              have h2 := HN1.out
              simp at this
              omega
          go_wp2_with fail
          go_ret
          exact ⟨ret_bool hf.out.symm, rfl⟩
        · have hd3 : decide ((100 : Int) < (n1 : Int)) = false := decide_eq_false (by omega)
          go_wp2_with fail
          go_roundw
          case rel =>
            refine ⟨trivial, i + 1, by omega, by simp, ?_⟩
            intro j hj l' hl'
            by_cases hji : j < i
            · exact hdone.out j hji l' hl'
            · obtain rfl : j = i := by omega
              have h1 := HL.out
              have h2 := HN1.out
              rw [h1] at hl'
              cases hl'
              omega
          case measure => simp [intOf]; omega
      · have hin : i = n := by omega
        subst hin
        have hf : Hid (fewB ls most = true) := by
          show _ = _
          rw [hall.out, List.all_eq_true]
          intro l hl
          obtain ⟨j, hj, hjl⟩ := List.mem_iff_getElem.1 hl
          simpa using hdone.out j (by have := HN.out; omega) l (by rw [List.getElem?_eq_getElem hj, hjl])
        go_wp2_with fail
        go_ret
        exact ⟨ret_bool hf.out.symm, rfl⟩

end Go.Proofs.Yticlhaofmcajpaa
