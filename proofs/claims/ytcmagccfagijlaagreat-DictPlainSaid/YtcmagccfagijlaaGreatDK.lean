/-
  Walks over package dict: must, got, the first functions that full holds.
-/
import Derived.Test.YtcmagccfagijlaaGreatDJ
import Derived.Test.YtcmagccfagijlaaGreatDB
import Derived.Laws.EntriesVeiled
namespace Go.Proofs.YtcmagccfagijlaaGreat
set_option linter.unusedVariables false
set_option linter.unusedSimpArgs false
set_option linter.unusedSectionVars false
open Go.RowKit

theorem dmust_yes {b : Bool} (h : b = true) (n : Int) (w : World) : Calls Tryz.prog 62 #[.bool b, .int .i64 n] w fun e w' => e = .returned (.tuple #[]) ∧ w = w' := by
  subst h
  go_enter Tryz.func62, Tryz.ntmps62
  go_wp2
  go_end0
  exact ⟨rfl, rfl⟩
theorem dmust_no {b : Bool} (h : b = false) (n : Int) (w : World) : Calls Tryz.prog 62 #[.bool b, .int .i64 n] w fun e w' => e = .panicked [raisedBy n false] ∧ w = w' := by
  subst h
  go_enter Tryz.func62, Tryz.ntmps62
  go_wp2
  exact ⟨rfl, rfl, rfl⟩
theorem got32_yes (x : Int) (w : World) : Calls Tryz.prog 83 #[.int .u32 x, .int .i64 0] w fun e w' => e = .returned (.int .u32 x) ∧ w' = w := by
  go_enter Tryz.func83, Tryz.ntmps83
  go_wp2_with (go_at_call 62; refine (dmust_yes (by simp) 0 _).mono ?_; rintro e w1 ⟨rfl, rfl⟩)
  go_ret
  exact ⟨rfl, rfl⟩
theorem got32_no (x n : Int) (hn : n ≠ 0) (w : World) : Calls Tryz.prog 83 #[.int .u32 x, .int .i64 n] w fun e w' => e = .panicked [raisedBy n false] ∧ w' = w := by
  have hn' : (n == 0) = false := by simpa using hn
  go_enter Tryz.func83, Tryz.ntmps83
  go_wp2_with (go_at_call 62; refine (dmust_no (by simp [hn']) n _).mono ?_; rintro e w1 ⟨rfl, rfl⟩)
  exact ⟨rfl, rfl, rfl⟩

set_option maxRecDepth 100000 in
/-- The number of a dictionary that ends too early. -/
theorem full2_no (p k bc bd : Nat) (v : Value) (B : List Int) (w : World) (hc : Cur w p v B k) (hb : Blk w bc #[.pointer (some ⟨p, 0, none⟩)] 71) (hE : bytesE B k 4 ≠ 0) :
    Calls Tryz.prog 82 #[.pointer (some ⟨bc, 0, none⟩), .pointer (some ⟨bd, 0, none⟩)] w fun e w' => e = .panicked [raisedBy (bytesE B k 4) false] ∧ Keeps w w' [p] := by
  have H := Lib.hid (word_any p k v B w hc)
  obtain ⟨d0, -⟩ := hb.one
  clear hc hb
  generalize wordL (bytesX B k 4) = X at *
  generalize bytesE B k 4 = E at *
  generalize bytesK B k 4 = K' at *
  go_enter Tryz.func82, Tryz.ntmps82
  go_wp2_with (first
    | (go_at_call 84; go_loud (refine H.out.mono ?_; rintro e w1 ⟨rfl, -, k1⟩))
    | (go_at_call 83; go_loud (refine (got32_no _ _ hE _).mono ?_; rintro e w2 ⟨rfl, rfl⟩)))
  exact ⟨rfl, rfl, k1⟩

set_option maxRecDepth 100000 in
set_option maxHeartbeats 1000000 in
/-- The number of a dictionary is laid. -/
theorem full2_yes (p k bc bd : Nat) (v : Value) (B : List Int) (w : World) (id : Int) (t : Value) (g1 : Int) (n1 : Value) (g2 : Int) (n2 : Value) (g3 : Int) (n3 : Value) (a b c : Int) (x : Value) (hc : Cur w p v B k) (hb : Blk w bc #[.pointer (some ⟨p, 0, none⟩)] 71)
    (hd : Blk w bd (dictC id t g1 n1 g2 n2 g3 n3 a b c x) 32) (hpd : p ≠ bd) (hE : bytesE B k 4 = 0) :
    Calls Tryz.prog 82 #[.pointer (some ⟨bc, 0, none⟩), .pointer (some ⟨bd, 0, none⟩)] w fun e w' => e = .returned (.tuple #[]) ∧ Blk w' bd (dictC (wordL (bytesX B k 4)) t g1 n1 g2 n2 g3 n3 a b c x) 32 ∧ Keeps w w' [p, bd] := by
  have H := Lib.hid (word_any p k v B w hc)
  rw [hE] at H
  obtain ⟨d0, -⟩ := hb.one
  clear hc hb hE
  generalize wordL (bytesX B k 4) = X at *
  generalize bytesK B k 4 = K' at *
  go_enter Tryz.func82, Tryz.ntmps82
  go_wp2_with (first
    | (go_at_call 84; go_loud (refine H.out.mono ?_; rintro e w1 ⟨rfl, -, k1⟩; have hd1 := hd.keeps k1 (by simpa using hpd.symm); have c0 : w1.cell? ⟨bd, 0, none⟩ = some (.int .u32 id) := hd1.cell 0; have f0 := hd1.frozen 0))
    | (go_at_call 83; go_loud (refine (got32_yes _ _).mono ?_; rintro e w2 ⟨rfl, rfl⟩)))
  go_end0
  refine ⟨rfl, ?_, ?_⟩
  · have := hd1.set 0 (.int .u32 X)
    simpa using this
  · exact (k1.mono (by simp)).trans ((Keeps.refl _ [bd]).setCell (.inr (by simp)) _) (fun j hj _ => by simp at hj; simp [hj])

theorem full3_no (bd : Nat) (w : World) (hd : w.cell? ⟨bd, 0, none⟩ = some (.int .u32 0)) :
    Calls Tryz.prog 85 #[.pointer (some ⟨bd, 0, none⟩)] w fun e w' => e = .panicked [raisedBy 9 false] ∧ w' = w := by
  go_enter Tryz.func85, Tryz.ntmps85
  go_wp2_with (go_at_call 62; refine (dmust_no (by simp) 9 _).mono ?_; rintro e w1 ⟨rfl, rfl⟩)
  exact ⟨rfl, rfl, rfl⟩

theorem full1_any (bc : Nat) (to : Addr) (s g : Int) (w : World) : Calls Tryz.prog 78 #[.pointer (some to), .int .i64 s, .int .i64 g, .pointer (some ⟨bc, 0, none⟩)] w fun e w' => (∃ cap, e = .returned (.func (.func 79) #[] cap)) ∧ Keeps w w' [] := by
  go_enter Tryz.func78, Tryz.ntmps78
  go_wp2_with fail
  go_ret
  exact ⟨⟨_, rfl⟩, ((((Keeps.refl _ _).alloc _).alloc _).alloc _)⟩

end Go.Proofs.YtcmagccfagijlaaGreat
