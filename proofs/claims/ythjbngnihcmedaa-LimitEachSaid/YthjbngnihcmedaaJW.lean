/-
  Walks over package limit: slices.Repeat of one number.
-/
import Derived.Test.YthjbngnihcmedaaJV
import Derived.Test.YthjbngnihcmedaaShelf
import Derived.Deep.AppendLies
import Derived.Deep.RegionLaw
import Derived.Laws.CopyOwn
namespace Go.Proofs.Ythjbngnihcmedaa
set_option linter.unusedVariables false
set_option linter.unusedSimpArgs false
open Go.RowKit

/-- A row of numbers, all of them x up to place j, then zeros. -/
def repL (n j : Nat) (x : Int) : List Value := List.replicate j (Value.int .i64 x) ++ List.replicate (n - j) (Value.int .i64 0)
theorem repL_len {n j : Nat} (x : Int) (h : j ≤ n) : (repL n j x).length = n := by simp [repL]; omega
theorem repL_splice {n j m : Nat} (x : Int) (h : j + m ≤ n) : splice (repL n j x) j (List.replicate m (Value.int .i64 x)) = repL n (j + m) x := by
  unfold splice repL
  have e1 : (List.replicate j (Value.int .i64 x) ++ List.replicate (n - j) (Value.int .i64 0)).take j = List.replicate j (Value.int .i64 x) := by
    rw [List.take_append_of_le_length (by simp)]; exact List.take_of_length_le (by simp)
  rw [e1, List.length_replicate, List.drop_append, List.length_replicate, List.drop_eq_nil_of_le (by simp), List.nil_append, List.drop_replicate, ← List.append_assoc, List.replicate_append_replicate]
  congr 2; omega
theorem repL_get {n j i : Nat} {x : Int} (h : i < j) : (repL n j x)[i]? = some (.int .i64 x) := by
  unfold repL
  rw [List.getElem?_append_left (by simpa using h), List.getElem?_replicate, if_pos h]

theorem make_cells (n : Nat) (hn : n ≤ 1000000) (w : World) : (Instr.makeSlice 22 (.int .i64 (n : Int)) (.int .i64 (n : Int))).run Try.prog w = .ok (.slice (some ⟨w.heap.size, 0, none⟩) n n) (w.alloc (.cells (repL n 0 0).toArray 3)) := by
  obtain ⟨i0, hi, hz0, hz1, hz2⟩ := info_parts Try.infoInt
  have hr := run_make (P := Try.prog) w 22 3 i0 (.int .i64 0) Try.underlying22 hi hz0 .i64 .i64 n n (by omega) (Int.le_refl _) (by rw [hz2]; omega) (by omega)
  simp only [Int.toNat_natCast] at hr
  rw [hr]
  have e : (madeCells (Value.int .i64 0).cells (n * i0.size)) = (repL n 0 0).toArray := by
    rw [hz1, Nat.mul_one]
    apply Array.toList_inj.1
    refine (toList_madeCells_one _ n).trans ?_
    simp [repL]
  rw [e]

theorem rep_news {w : World} {bx ox : Nat} {x : Int} {C : Array Value} {T : TypeId} (h : w.cell? ⟨bx, ox, none⟩ = some (.int .i64 x)) (hb : bx < w.heap.size) :
    ∀ j v, (List.replicate 1 (Value.int .i64 x))[j]? = some v → (w.alloc (.cells C T)).cell? ((⟨bx, ox, none⟩ : Addr).add j) = some v := by
  intro j v hj
  rw [List.getElem?_replicate] at hj
  split at hj
  · obtain rfl : j = 0 := by omega
    cases hj
    have e : (⟨bx, ox, none⟩ : Addr).add 0 = ⟨bx, ox, none⟩ := by simp [Addr.add]
    rw [e]
    exact (((Keeps.refl w []).alloc _).cell hb (by simp)).trans h
  · cases hj
theorem rep_newsN {w : World} {g n j m : Nat} {x : Int} {T : TypeId} (h : w.heap[g]? = some (.cells (repL n j x).toArray T (0, 0))) (hm : m ≤ j) :
    ∀ i v, (List.replicate m (Value.int .i64 x))[i]? = some v → w.cell? ((⟨g, 0, none⟩ : Addr).add i) = some v := by
  intro i v hi
  rw [List.getElem?_replicate] at hi
  split at hi
  · cases hi
    have e : (⟨g, 0, none⟩ : Addr).add i = ⟨g, i, none⟩ := by simp [Addr.add]; omega
    rw [e, cell_of_row w g i _ T (0, 0) h, List.getElem?_toArray]
    exact repL_get (by omega)
  · cases hi

def RepEnd (w : World) (n : Nat) (x : Int) (e : Ending) (w' : World) : Prop := ∃ g, e = .returned (.slice (some ⟨g, 0, none⟩) n n) ∧ w.heap.size ≤ g ∧ RowI w' g n n (List.replicate n x) ∧ Keeps w w' []

theorem repL_row {w : World} {g n : Nat} {x : Int} (hn : n ≤ 1000000) (h : w.heap[g]? = some (.cells (repL n n x).toArray 3 (0, 0))) : RowI w g n n (List.replicate n x) := by
  refine ⟨List.length_replicate .., by simp, .inr ⟨g, n, _, rfl, Nat.zero_le _, h, Nat.le_refl _, by unfold maxLen; omega, by simp [repL], ?_⟩⟩
  simp [repL]

set_option maxRecDepth 100000 in
set_option maxHeartbeats 4000000 in
theorem repeat_one (x : Int) (n bx ox c : Nat) (w : World) (hx : w.cell? ⟨bx, ox, none⟩ = some (.int .i64 x)) (hb : bx < w.heap.size) (hn0 : 1 ≤ n) (hn : n ≤ 1000) :
    Calls Try.prog 48 #[.slice (some ⟨bx, ox, none⟩) 1 c, .int .i64 (n : Int)] w (RepEnd w n x) := by
  have hmul : ∀ w, Calls Try.prog 61 #[.int .u64 1, .int .u64 (n : Int)] w fun e w' => e = .returned (.tuple #[.int .u64 0, .int .u64 (n : Int)]) ∧ w = w' := fun w => by
    refine (Try.bits_Mul 1 n (by omega) (by omega) w).mono ?_
    rintro e w' ⟨rfl, rfl⟩
    rw [Nat.one_mul, Nat.div_eq_of_lt (by omega), Nat.mod_eq_of_lt (by omega)]
    exact ⟨rfl, rfl⟩
  have HM := Lib.hid hmul
  have hmk := make_cells n (by omega)
  have hn0' : (1 : Int) ≤ (n : Int) := by omega
  have hn' : (n : Int) ≤ 1000 := by omega
  clear hmul
  go_enter Try.func48, Try.ntmps48
  have hnb := hb
  have HX := Lib.hid hx
  have hcs : ∀ v ∈ List.replicate 1 (Value.int .i64 x), v.oneCell' = true := by intro v hv; rw [(List.mem_replicate.1 hv).2]; simp [Value.oneCell']
  have HCS := Lib.hid hcs
  have hsp := repL_splice (n := n) (j := 0) (m := 1) x (by omega)
  have e00 : repL n 0 x = repL n 0 0 := by simp [repL]
  rw [e00, Nat.zero_add] at hsp
  have HSP := Lib.hid hsp
  have HL0 := Lib.hid (repL_len (n := n) (j := 0) 0 (by omega))
  clear hcs hsp e00 hx
  go_wp2_with (first | (go_at_call 61; refine (HM.out _).mono ?_; rintro e w' ⟨rfl, rfl⟩) | (with_reducible refine wpList_copy_splice rfl (.tmp 31) (.tmp 32) 22 22 rfl 3 Try.underlying22 (by kernel_rfl) (some ⟨w.heap.size, 0, none⟩) (some ⟨bx, ox, none⟩) n n 1 c rfl rfl w.heap.size 0 (repL n 0 0) 3 (heap_alloc_new w _) (List.replicate 1 (Value.int .i64 x)) (by rw [List.length_replicate]; exact (Nat.min_eq_left hn0).symm) (fun _ => ⟨rfl, ⟨bx, ox, none⟩, rfl, rep_news HX.out hnb⟩) (by rw [List.length_replicate, HL0.out]; omega) HCS.out w.heap.size w ((Below.refl _ _).alloc (Nat.le_refl _) _) (Nat.le_refl _) ?_; intro w1 hg hB; rw [HSP.out] at hg))
  go_loopw [8] (fun s8 wr => ∃ j : Nat, 1 ≤ j ∧ j ≤ n ∧ s8 = .int .i64 j ∧ Hid (wr.heap[w.heap.size]? = some (.cells (repL n j x).toArray 3 (0, 0))) ∧ Below w.heap.size w wr) (fun s8 _ => n - (intOf s8).toNat)
  case atStart => exact ⟨1, Nat.le_refl _, hn0, rfl, hg, hB⟩
  case round =>
    obtain ⟨j, hj1, hj, rfl, hgj, hBj⟩ := hrel
    clear HSP HL0 hg hB HM hmk HCS
    by_cases hlt : j < n
    · obtain ⟨m, hm⟩ : ∃ m, m = Nat.min j (n - j) := ⟨_, rfl⟩
      have hmj : m ≤ j := by rw [hm]; exact Nat.min_le_left _ _
      have hmn : m ≤ n - j := by rw [hm]; exact Nat.min_le_right _ _
      have hm1 : 1 ≤ m := by rw [hm]; exact Nat.le_min.2 ⟨hj1, by omega⟩
      have HMM := Lib.hid hm
      have HSP := Lib.hid (repL_splice (n := n) (j := j) (m := m) x (by omega))
      have HLJ := Lib.hid (repL_len (n := n) (j := j) x hj)
      have HCS : Hid (∀ v ∈ List.replicate m (Value.int .i64 x), v.oneCell' = true) := by intro v hv; rw [(List.mem_replicate.1 hv).2]; simp [Value.oneCell']
      have s1 : IntKind.i64.wrap ((j : Int) + (m : Int)) = ((j + m : Nat) : Int) := by rw [Int.natCast_add]; exact IntWalk.i64_in _ (by omega)
      have hnj : ¬ n = j := by omega
      clear hm
      go_wp2_with fail
      go_region_law (refine step_copy_splice rfl (.tmp 41) (.tmp 44) 22 22 rfl 3 Try.underlying22 (by kernel_rfl) (some ⟨w.heap.size, j, none⟩) (some ⟨w.heap.size, 0, none⟩) (n - j) (n - j) j n (by simp [Act.eval, Act.put]) (by simp [Act.eval, Act.put]) w.heap.size j (repL n j x) 3 hgj.out (List.replicate m (Value.int .i64 x)) (by rw [List.length_replicate]; exact HMM.out) (fun _ => ⟨rfl, ⟨w.heap.size, 0, none⟩, rfl, rep_newsN hgj.out hmj⟩) (by rw [List.length_replicate, HLJ.out]; omega) HCS.out w.heap.size w hBj.drew (Nat.le_refl _) ?_; intro w2 hg2 hB2; rw [HSP.out] at hg2)
      simp only [Act.put, List.getElem_toArray, List.getElem_cons_succ, List.getElem_cons_zero, List.setIfInBounds_toArray, List.set_cons_zero, List.set_cons_succ]
      go_wp2_with fail
      go_roundw
      case rel => exact ⟨j + m, by omega, by omega, rfl, hg2, hB2⟩
      case measure => simp [intOf]; omega
    · have hjn : j = n := by omega
      subst hjn
      go_wp2_with fail
      go_ret
      exact ⟨_, rfl, Nat.le_refl _, repL_row (by omega) hgj.out, Keeps.of_below hBj⟩

end Go.Proofs.Ythjbngnihcmedaa
