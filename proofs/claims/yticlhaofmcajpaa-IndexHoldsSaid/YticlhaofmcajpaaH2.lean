/-
  A function that is left with many collected defers: one for each range over a function that it ran. No program is in sight here.
-/
import Derived.Test.YticlhaofmcajpaaRF
namespace Go.Proofs.Yticlhaofmcajpaa
set_option linter.unusedVariables false
set_option linter.unusedSimpArgs false
open Go.RowKit

/-- The marks of the ranges that have run, the last first. -/
def collectedL (ds : List Nat) : List Deferred := ds.map (fun d => { target := .collected d, args := #[] })
/-- The world when all have been taken. -/
def putAll : List Nat → World → World
  | [], w => w
  | d :: ds, w => putAll ds (w.putObj d (.deferred none))
/-- Each mark stands, none twice. -/
structure Marks (ds : List Nat) (w : World) : Prop where
  all : ∀ d ∈ ds, w.heap[d]? = some (.deferred (some []))
  nodup : ds.Nodup

theorem Marks.lt {ds : List Nat} {w : World} (h : Marks ds w) {d : Nat} (hd : d ∈ ds) : d < w.heap.size := (Array.getElem?_eq_some_iff.1 (h.all d hd)).1
theorem Marks.nil {w : World} : Marks [] w := ⟨by simp, by simp⟩
theorem Marks.keeps {ds : List Nat} {w w' : World} {S : List Nat} (h : Marks ds w) (k : Keeps w w' S) (hS : ∀ d ∈ ds, d ∉ S) : Marks ds w' :=
  ⟨fun d hd => (k.block d (h.lt hd) (hS d hd)).trans (h.all d hd), h.nodup⟩
theorem Marks.cons {ds : List Nat} {w : World} {D : Nat} (h : Marks ds w) (hD : w.heap[D]? = some (.deferred (some []))) (hn : ∀ d ∈ ds, d < D) : Marks (D :: ds) w :=
  ⟨fun d hd => by
    rcases List.mem_cons.1 hd with rfl | hd
    · exact hD
    · exact h.all d hd, List.nodup_cons.2 ⟨fun hm => by have := hn D hm; omega, h.nodup⟩⟩

theorem putAll_leaves {n : Nat} {P : Program} {fn : Func} {tmps : Array Value} {R : Ending → World → Prop} : ∀ (ds : List Nat) (w : World), Marks ds w →
    (∃ v, (results fn tmps).run P (putAll ds w) = .ok v (putAll ds w) ∧ R (.returned v) (putAll ds w)) → LeavesInM Fence.wide n P fn tmps R (collectedL ds) .returning w
  | [], w, _, h => by
    obtain ⟨v, h1, h2⟩ := h
    exact ⟨v, h1, h2⟩
  | d :: ds, w, hm, h => by
    refine ⟨by simp, .inl ⟨d, _, rfl, run_takeDeferred (hm.all d (by simp)), ?_⟩⟩
    refine putAll_leaves ds _ ⟨fun e he => ?_, (List.nodup_cons.1 hm.nodup).2⟩ h
    have hne : e ≠ d := fun h0 => (List.nodup_cons.1 hm.nodup).1 (h0 ▸ he)
    exact (World.putObj_heap_other hne).trans (hm.all e (by simp [he]))

theorem putAll_other : ∀ (ds : List Nat) (w : World) (b : Nat), b ∉ ds → (putAll ds w).heap[b]? = w.heap[b]?
  | [], w, b, _ => rfl
  | d :: ds, w, b, h => by
    rw [putAll, putAll_other ds _ b (fun hm => h (by simp [hm]))]
    exact World.putObj_heap_other (fun h0 => h (by simp [h0]))
theorem putAll_below : ∀ (ds : List Nat) (w : World) (B : Nat), Marks ds w → (∀ d ∈ ds, B ≤ d) → Below B w (putAll ds w)
  | [], w, B, _, _ => Below.refl B w
  | d :: ds, w, B, hm, h => by
    have h1 : Below B w (w.putObj d (.deferred none)) := ⟨rfl, rfl, rfl, by simp [World.putObj], fun j hj => World.putObj_heap_other (by have := h d (by simp); omega)⟩
    refine h1.trans (putAll_below ds _ B ⟨fun e he => ?_, (List.nodup_cons.1 hm.nodup).2⟩ (fun e he => h e (by simp [he])))
    have hne : e ≠ d := fun h0 => (List.nodup_cons.1 hm.nodup).1 (h0 ▸ he)
    exact (World.putObj_heap_other hne).trans (hm.all e (by simp [he]))


set_option maxRecDepth 100000 in
theorem lit236 (T : Array Value) (h : T.size = 236) : ∃ u : Nat → Value, T = #[u 0, u 1, u 2, u 3, u 4, u 5, u 6, u 7, u 8, u 9, u 10, u 11, u 12, u 13, u 14, u 15, u 16, u 17, u 18, u 19, u 20, u 21, u 22, u 23, u 24, u 25, u 26, u 27, u 28, u 29, u 30, u 31, u 32, u 33, u 34, u 35, u 36, u 37, u 38, u 39, u 40, u 41, u 42, u 43, u 44, u 45, u 46, u 47, u 48, u 49, u 50, u 51, u 52, u 53, u 54, u 55, u 56, u 57, u 58, u 59, u 60, u 61, u 62, u 63, u 64, u 65, u 66, u 67, u 68, u 69, u 70, u 71, u 72, u 73, u 74, u 75, u 76, u 77, u 78, u 79, u 80, u 81, u 82, u 83, u 84, u 85, u 86, u 87, u 88, u 89, u 90, u 91, u 92, u 93, u 94, u 95, u 96, u 97, u 98, u 99, u 100, u 101, u 102, u 103, u 104, u 105, u 106, u 107, u 108, u 109, u 110, u 111, u 112, u 113, u 114, u 115, u 116, u 117, u 118, u 119, u 120, u 121, u 122, u 123, u 124, u 125, u 126, u 127, u 128, u 129, u 130, u 131, u 132, u 133, u 134, u 135, u 136, u 137, u 138, u 139, u 140, u 141, u 142, u 143, u 144, u 145, u 146, u 147, u 148, u 149, u 150, u 151, u 152, u 153, u 154, u 155, u 156, u 157, u 158, u 159, u 160, u 161, u 162, u 163, u 164, u 165, u 166, u 167, u 168, u 169, u 170, u 171, u 172, u 173, u 174, u 175, u 176, u 177, u 178, u 179, u 180, u 181, u 182, u 183, u 184, u 185, u 186, u 187, u 188, u 189, u 190, u 191, u 192, u 193, u 194, u 195, u 196, u 197, u 198, u 199, u 200, u 201, u 202, u 203, u 204, u 205, u 206, u 207, u 208, u 209, u 210, u 211, u 212, u 213, u 214, u 215, u 216, u 217, u 218, u 219, u 220, u 221, u 222, u 223, u 224, u 225, u 226, u 227, u 228, u 229, u 230, u 231, u 232, u 233, u 234, u 235] ∧ ∀ i, T.getD i undef = u i := by
  refine ⟨fun i => T.getD i undef, ?_, fun _ => rfl⟩
  have e : T = ((List.range 236).map (fun i => T.getD i undef)).toArray := by
    apply Array.ext
    · simp [h]
    · intro i h1 h2
      simp [h1]
  exact e.trans rfl

/-- What a world keeps whose blocks below B are as they were. -/
theorem below_keeps {B : Nat} {X Y : World} (h : Below B X Y) : Keeps X Y ((List.range X.heap.size).filter (fun j => decide (B ≤ j))) :=
  ⟨h.os, h.tape, h.output, h.size, fun j hj hn => h.block j (by
    rcases Nat.lt_or_ge j B with h1 | h1
    · exact h1
    · exact absurd (List.mem_filter.2 ⟨List.mem_range.2 hj, by simpa using h1⟩) hn)⟩

end Go.Proofs.Yticlhaofmcajpaa
