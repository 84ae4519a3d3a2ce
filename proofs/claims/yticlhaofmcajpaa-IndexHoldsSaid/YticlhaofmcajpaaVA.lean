/-
  The law's helper works: the examples of the chapter hold.
-/
import Derived.Test.YticlhaofmcajpaaV9
import Derived.Lib.SlBytesConst
namespace Go.Proofs.Yticlhaofmcajpaa
set_option linter.unusedVariables false
set_option linter.unusedSimpArgs false
open Go.RowKit Go.Shelf

/-- A slice literal. -/
theorem RdI.lit {k : IntKind} (w : World) {l : List Int} {T : TypeId} {cs : Array Value} (fr : Nat × Nat) (hl : cs.toList = l.map (.int k)) {n cp : Nat} (hn : n = l.length) (hc : n ≤ cp) : RdI k (w.alloc (.cells cs T fr)) (.slice (some ⟨w.heap.size, 0, none⟩) n cp) l := by
  refine ⟨_, _, _, rfl, hn, (fun h => by cases h), fun h0 => ⟨hc, w.heap.size, 0, rfl, by simp, fun i x hx => ?_⟩⟩
  rw [Nat.zero_add, cell_of_row (w.alloc (.cells cs T fr)) w.heap.size i cs T fr (heap_alloc_new w _), ← Array.getElem?_toList, hl, List.getElem?_map, hx]
  rfl

theorem optV_some (x : Int) : optV (some x) = .tuple #[.int .i64 x, .bool true] := rfl
theorem optV_none : optV none = .tuple #[.int .i64 0, .bool false] := rfl
abbrev exB : List Int := [97, 98, 99, 97, 98, 99, 97, 98]
theorem ex1 : prevV 3 exB 3 = some 0 := by decide
theorem ex2 : prevV 3 exB 5 = some 2 := by decide
theorem ex3 : prevV 3 exB 0 = none := by decide
theorem ex4 : prevV 3 exB 6 = none := by decide
theorem ex5 : prevV 3 (exB ++ [99]) 6 = some 3 := by decide
theorem ex6 : findV 3 (exB ++ [99]) [97, 98, 99] = some 6 := by decide
theorem ex7 : findV 3 (exB ++ [99]) [97, 98] = none := by decide
theorem ex8 : refChain 3 (exB ++ [99]) 6 = [3, 0] := by decide
theorem ex9 : countV 3 (exB ++ [99]) [97, 98, 99] = 3 := by decide
theorem ex10 : bytesL (exB ++ [99]) 6 99 = [97, 98, 99] := by decide
theorem ex11 : strOfNums [97, 98, 99] = ⟨#[97, 98, 99]⟩ := by decide

set_option maxRecDepth 100000 in
set_option maxHeartbeats 4000000 in
theorem works_true (w : World) : Calls Try.prog 10 #[] w fun e w' => e = .returned (.bool true) ∧ Keeps w w' [] := by
  have kc := fun (w : World) (C : Array Value) (n c : Nat) => Lib.run_convert_bytes_const (P := Try.prog) w 22 5 C n c Try.underlying22 Try.underlying5
  go_enter Try.func10, Try.ntmps10
  go_wp2_with fail
  refine (new_yes 3 w (by decide) (by decide)).mono ?_
  rintro e w1 ⟨p, S1, rfl, i1, l1, k1⟩
  go_wp2_with fail
  have r1 : RdI .u8 (w1.alloc (.cells #[.int .u8 97, .int .u8 98, .int .u8 99, .int .u8 97, .int .u8 98, .int .u8 99, .int .u8 97, .int .u8 98] 5 (8, 8 + 1))) (.slice (some ⟨w1.heap.size, 0, none⟩) 8 8) exB := by refine RdI.lit _ _ ?_ ?_ ?_ <;> first | rfl | exact Nat.le_refl _
  refine (add_any p 3 [] exB _ S1 _ (i1.keep ((Keeps.refl w1 []).alloc _)) r1 (by decide) (by decide)).mono ?_
  rintro e w2 ⟨rfl, S2, i2, l2, k2⟩
  rw [List.nil_append] at i2
  have hs1 := l1
  have kw2 : Keeps w w2 [] := (k1.alloc _).trans k2 (fun x hx hlt => absurd (l1 x hx) (by omega))
  go_wp2_with fail
  refine (len_any p 3 exB S2 w2 i2).mono ?_
  rintro e w' ⟨rfl, rfl⟩
  go_wp2_with fail
  refine (previous_any p 3 exB S2 3 w2 i2).mono ?_
  rintro e w' ⟨rfl, rfl⟩
  rw [ex1, optV_some]
  go_wp2_with fail
  refine (previous_any p 3 exB S2 5 w2 i2).mono ?_
  rintro e w' ⟨rfl, rfl⟩
  rw [ex2, optV_some]
  go_wp2_with fail
  refine (previous_any p 3 exB S2 0 w2 i2).mono ?_
  rintro e w' ⟨rfl, rfl⟩
  rw [ex3, optV_none]
  go_wp2_with fail
  refine (previous_any p 3 exB S2 6 w2 i2).mono ?_
  rintro e w' ⟨rfl, rfl⟩
  rw [ex4, optV_none]
  go_wp2_with fail
  have r2 : RdI .u8 (w2.alloc (.cells #[.int .u8 99] 5)) (.slice (some ⟨w2.heap.size, 0, none⟩) 1 1) [99] := by refine RdI.lit _ _ ?_ ?_ ?_ <;> first | rfl | exact Nat.le_refl _
  refine (add_any p 3 exB [99] _ S2 _ (i2.keep ((Keeps.refl w2 []).alloc _)) r2 (by decide) (by decide)).mono ?_
  rintro e w3 ⟨rfl, S3, i3, l3, k3⟩
  have kw3 : Keeps w w3 [] := (kw2.alloc _).trans k3 (fun x hx hlt => by rcases l2 x hx with h | h; exact absurd (l1 x h) (by omega); have := k1.size; simp at h; omega)
  go_wp2_with fail
  refine (previous_any p 3 _ S3 6 w3 i3).mono ?_
  rintro e w' ⟨rfl, rfl⟩
  rw [ex5, optV_some]
  go_wp2_with fail
  have r3 : RdI .u8 (w3.alloc (.cells #[.int .u8 97, .int .u8 98, .int .u8 99] 5 (3, 3 + 1))) (.slice (some ⟨w3.heap.size, 0, none⟩) 3 3) [97, 98, 99] := by refine RdI.lit _ _ ?_ ?_ ?_ <;> first | rfl | exact Nat.le_refl _
  refine (find_any p 3 _ [97, 98, 99] _ S3 _ (i3.keep ((Keeps.refl w3 []).alloc _)) r3 (by decide)).mono ?_
  rintro e w4 ⟨rfl, k4⟩
  have i4 := (i3.keep ((Keeps.refl w3 []).alloc _)).keep k4
  have kw4 := (kw3.alloc _).then k4
  rw [ex6, optV_some]
  clear i3 k4 kw3 i2 i1 kw2
  go_wp2_with fail
  have r4 : RdI .u8 (w4.alloc (.cells #[.int .u8 97, .int .u8 98] 5 (2, 2 + 1))) (.slice (some ⟨w4.heap.size, 0, none⟩) 2 2) [97, 98] := by refine RdI.lit _ _ ?_ ?_ ?_ <;> first | rfl | exact Nat.le_refl _
  refine (find_any p 3 _ [97, 98] _ S3 _ (i4.keep ((Keeps.refl w4 []).alloc _)) r4 (by decide)).mono ?_
  rintro e w5 ⟨rfl, k5⟩
  have i5 := (i4.keep ((Keeps.refl w4 []).alloc _)).keep k5
  have kw5 := (kw4.alloc _).then k5
  rw [ex7, optV_none]
  clear i4 k5 kw4
  go_wp2_with fail
  refine (new_no 0 w5 (by omega)).mono ?_
  rintro e w' ⟨rfl, rfl⟩
  go_wp2_with fail
  refine (new_no 9 w5 (by omega)).mono ?_
  rintro e w' ⟨rfl, rfl⟩
  go_wp2_with (go_at_call 18; refine (num_any _ _).mono ?_; rintro e w' ⟨rfl, rfl⟩)
  have r5 : RdI .i64 (w5.alloc (.cells #[.int .i64 3, .int .i64 0] 3)) (.slice (some ⟨w5.heap.size, 0, none⟩) 2 2) [3, 0] := by refine RdI.lit _ _ ?_ ?_ ?_ <;> first | rfl | exact Nat.le_refl _
  refine (over_any p 3 _ S3 6 9 [3, 0] _ _ (i5.keep ((Keeps.refl w5 []).alloc _)) ex8 r5 (by decide) (by decide) (by decide)).mono ?_
  rintro e w6 ⟨rfl, k6⟩
  have i6 := (i5.keep ((Keeps.refl w5 []).alloc _)).keep k6
  have kw6 := (kw5.alloc _).then k6
  clear i5 k6 kw5 r5 r4 r3 r2 r1
  go_wp2_with fail
  have r6 : RdI .u8 (w6.alloc (.cells #[.int .u8 97, .int .u8 98, .int .u8 99] 5 (3, 3 + 1))) (.slice (some ⟨w6.heap.size, 0, none⟩) 3 3) [97, 98, 99] := by refine RdI.lit _ _ ?_ ?_ ?_ <;> first | rfl | exact Nat.le_refl _
  refine (count_any p 3 _ [97, 98, 99] _ S3 _ (i6.keep ((Keeps.refl w6 []).alloc _)) r6 (by decide)).mono ?_
  rintro e w7 ⟨rfl, k7⟩
  have i7 := (i6.keep ((Keeps.refl w6 []).alloc _)).keep k7
  have kw7 := (kw6.alloc _).then k7
  rw [ex9]
  clear i6 k7 kw6 r6
  go_wp2_with fail
  refine (bytes_any p 3 _ 6 99 S3 _ i7).mono ?_
  rintro e w8 ⟨v8, rfl, r8, k8⟩
  rw [ex10] at r8
  have kw8 := kw7.then k8
  have hs := str_of r8 Try.underlying22 Try.underlying5 Try.underlying9
  rw [ex11] at hs
  go_wp2_with fail
  go_ret
  exact ⟨rfl, kw8⟩

end Go.Proofs.Yticlhaofmcajpaa
