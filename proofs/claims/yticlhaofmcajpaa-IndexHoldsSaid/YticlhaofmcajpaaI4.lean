/-
  Walks of an index: the padded key of some bytes; a new index.
-/
import Derived.Test.YticlhaofmcajpaaI3
import Derived.Laws.CopyOwn
import Derived.Laws.Rows
namespace Go.Proofs.Yticlhaofmcajpaa
set_option linter.unusedVariables false
set_option linter.unusedSimpArgs false
set_option linter.unusedSectionVars false
open Go.RowKit

/-- The numbers of a list, as append and copy ask for their cells. -/
theorem RdI.news0 {k : IntKind} {w : World} {v : Value} {l : List Int} (h : RdI k w v l) (h0 : 0 < l.length) : ∃ ad n cp, v = .slice (some ad) n cp ∧ ∀ j u, (l.map (Value.int k))[j]? = some u → w.cell? (ad.add j) = some u := by
  obtain ⟨a, n, cp, rfl, hl, -, hc⟩ := h.form
  obtain ⟨-, b, o, rfl, -⟩ := hc (by omega)
  exact ⟨_, _, _, rfl, h.news⟩

theorem splice_pad {l : List Int} (h : l.length ≤ 8) : splice (List.replicate 8 (Value.int .u8 0)) 0 (l.map (Value.int .u8)) = (pad l).map (Value.int .u8) := by
  unfold splice pad
  rw [List.take_zero, List.nil_append, Nat.zero_add, List.length_map, List.drop_replicate, List.map_append, List.map_replicate]
theorem eight {α : Type} {l : List α} (h : l.length = 8) : ∃ x0 x1 x2 x3 x4 x5 x6 x7, l = [x0, x1, x2, x3, x4, x5, x6, x7] := by
  match l, h with
  | [x0, x1, x2, x3, x4, x5, x6, x7], _ => exact ⟨x0, x1, x2, x3, x4, x5, x6, x7, rfl⟩

theorem Blk.eight {w : World} {b : Nat} {y0 y1 y2 y3 y4 y5 y6 y7 : Value} {T : TypeId} (h : Blk w b #[y0, y1, y2, y3, y4, y5, y6, y7] T) :
    w.cell? ⟨b, 0, none⟩ = some y0 ∧ w.cell? ⟨b, 1, none⟩ = some y1 ∧ w.cell? ⟨b, 2, none⟩ = some y2 ∧ w.cell? ⟨b, 3, none⟩ = some y3 ∧ w.cell? ⟨b, 4, none⟩ = some y4 ∧ w.cell? ⟨b, 5, none⟩ = some y5 ∧ w.cell? ⟨b, 6, none⟩ = some y6 ∧ w.cell? ⟨b, 7, none⟩ = some y7 ∧
    w.frozen? ⟨b, 0, none⟩ = false ∧ w.frozen? ⟨b, 1, none⟩ = false ∧ w.frozen? ⟨b, 2, none⟩ = false ∧ w.frozen? ⟨b, 3, none⟩ = false ∧ w.frozen? ⟨b, 4, none⟩ = false ∧ w.frozen? ⟨b, 5, none⟩ = false ∧ w.frozen? ⟨b, 6, none⟩ = false ∧ w.frozen? ⟨b, 7, none⟩ = false :=
  ⟨h.cell 0, h.cell 1, h.cell 2, h.cell 3, h.cell 4, h.cell 5, h.cell 6, h.cell 7, h.frozen 0, h.frozen 1, h.frozen 2, h.frozen 3, h.frozen 4, h.frozen 5, h.frozen 6, h.frozen 7⟩

set_option maxHeartbeats 1000000 in
theorem of_any (p K : Nat) (v : Value) (l : List Int) (w : World) (h1 : w.cell? ⟨p, 1, none⟩ = some (.int .i64 (K : Int))) (hp : p < w.heap.size) (hK1 : 1 ≤ K) (hK : K ≤ 8) (hv : RdI .u8 w v l) (hl : l.length = K) :
    Calls Try.prog 29 #[.pointer (some ⟨p, 0, none⟩), v] w fun e w' => e = .returned (keyV (pad l)) ∧ Keeps w w' [] := by
  obtain ⟨ad, n, cp, rfl, hnews⟩ := hv.news0 (by omega)
  have hn : n = l.length := hv.len
  have hKi : (K : Int) ≤ 8 := by omega
  have hK0 : (0 : Int) ≤ (K : Int) := Int.natCast_nonneg _
  obtain ⟨x0, x1, x2, x3, x4, x5, x6, x7, hx⟩ := eight (pad_len (l := l) (by omega))
  have HX := Lib.hid hx
  have HS := Lib.hid (splice_pad (l := l) (by omega))
  have HN := Lib.hid hn
  have HL := Lib.hid hl
  have HV := Lib.hid hv
  clear hv hn hl hnews hx
  go_enter Try.func29, Try.ntmps29
  go_wp2_with ((with_reducible refine wpList_copy_splice rfl (.tmp 9) (.tmp 10) 22 22 rfl 5 Try.underlying22 (by kernel_rfl) (some ⟨w.heap.size, 0, none⟩) (some ad) K 8 n cp rfl rfl w.heap.size 0 (List.replicate 8 (Value.int .u8 0)) 64 (heap_alloc_new w _) (l.map (Value.int .u8)) (by rw [List.length_map, HN.out, HL.out]; exact (Nat.min_self K).symm) (fun _ => ⟨rfl, ad, rfl, (HV.out.keeps ((Keeps.refl w []).alloc _)).news⟩) (by rw [List.length_map, List.length_replicate, HL.out]; omega) (nums_one _ _) w.heap.size w ((Below.refl _ _).alloc (Nat.le_refl _) _) (Nat.le_refl _) ?_); intro w1 hg hB; have hb : Blk w1 w.heap.size #[.int .u8 x0, .int .u8 x1, .int .u8 x2, .int .u8 x3, .int .u8 x4, .int .u8 x5, .int .u8 x6, .int .u8 x7] 64 := (by have h9 := hg.out; rw [HS.out, HX.out] at h9; exact h9); obtain ⟨c0, c1, c2, c3, c4, c5, c6, c7, f0, f1, f2, f3, f4, f5, f6, f7⟩ := hb.eight; clear hg hb)
  refine bodyPost_ret (v := keyV (pad l)) ?_ rfl ⟨rfl, ?_⟩
  · rw [HX.out]
    simp only [results, Try.results29]
    go_simp
    rfl
  · repeat' first | with_reducible exact (Keeps.of_below hB) | with_reducible refine Keeps.setCell' (.inl (Nat.le_refl _)) ?_


/-- The ending of New. -/
def NewEnd (w : World) (k : Nat) (e : Ending) (w' : World) : Prop := ∃ p S, e = .returned (.tuple #[.pointer (some ⟨p, 0, none⟩), .int .i64 0]) ∧ Idx w' p k [] S ∧ (∀ x ∈ S, w.heap.size ≤ x) ∧ Keeps w w' []

theorem nk_nil {k : Nat} (h : 1 ≤ k) : nk k [] = 0 := by simp [nk]; omega

set_option maxHeartbeats 1000000 in
theorem new_yes (k : Nat) (w : World) (h1 : 1 ≤ k) (h8 : k ≤ 8) : Calls Try.prog 11 #[.int .i64 k] w (NewEnd w k) := by
  have d1 : decide ((k : Int) < 1) = false := decide_eq_false (by omega)
  have d2 : decide ((8 : Int) < (k : Int)) = false := decide_eq_false (by omega)
  have hmm := @run_makeMap Try.prog
  go_enter Try.func11, Try.ntmps11
  go_wp2_with fail
  go_ret2
  have k1 : Keeps w (w.alloc (.map #[] 0)) [] := (Keeps.refl w []).alloc _
  have k2 : Keeps (w.alloc (.map #[] 0)) ((w.alloc (.map #[] 0)).alloc (.map #[] 0)) [] := (Keeps.refl _ []).alloc _
  have k3 := (Keeps.refl ((w.alloc (.map #[] 0)).alloc (.map #[] 0)) []).alloc (.cells #[.slice none 0 0, .int .i64 (k : Int), .map (some w.heap.size), .map (some (w.heap.size + 1)), .slice none 0 0] 62)
  have mL := ((MapF.made w).keeps k2 (by simp)).keeps k3 (by simp)
  have mC := (MapF.made (w.alloc (.map #[] 0))).keeps k3 (by simp)
  have hb := Blk.new ((w.alloc (.map #[] 0)).alloc (.map #[] 0)) #[.slice none 0 0, .int .i64 (k : Int), .map (some w.heap.size), .map (some (w.heap.size + 1)), .slice none 0 0] 62
  refine ⟨w.heap.size + 1 + 1, [w.heap.size + 1 + 1, w.heap.size, w.heap.size + 1], rfl, ⟨?_, ⟨h1, h8, by simp, by simp⟩⟩, by simp; omega, (k1.then k2).then k3⟩
  rw [nk_nil h1]
  refine ⟨.slice none 0 0, .slice none 0 0, w.heap.size, w.heap.size + 1, rfl, by simp; omega, ?_, World.ownsRow_nil _ _ _ _, World.ownsRow_nil _ _ _ _, mL, ?_⟩
  · simpa using hb
  · rw [World.size_alloc] at mC; exact mC

theorem new_no (k : Int) (w : World) (h : k < 1 ∨ 8 < k) : Calls Try.prog 11 #[.int .i64 k] w fun e w' => e = .returned (.tuple #[.pointer none, .int .i64 2]) ∧ w = w' := by
  by_cases h1 : k < 1
  · clear h
    go_enter Try.func11, Try.ntmps11
    go_wp2_with fail
    go_ret2
    exact ⟨rfl, rfl⟩
  · have d1 : decide (k < 1) = false := decide_eq_false h1
    have h8 : 8 < k := by omega
    clear h h1
    go_enter Try.func11, Try.ntmps11
    go_wp2_with fail
    go_ret2
    exact ⟨rfl, rfl⟩

end Go.Proofs.Yticlhaofmcajpaa
