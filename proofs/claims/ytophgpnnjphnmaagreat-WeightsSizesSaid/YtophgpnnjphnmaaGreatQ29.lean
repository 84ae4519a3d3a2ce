/-
  Walks over package weights: the reader of format 1. (Printed by mkWe.py.)
  Walks over package weights: Decode for format 1. (Printed by mkWg.py.)
  Walks over package weights: the deferred function of further callers, FromTree.
  Walk over the reference of package canon: Right.
  Walks over the references of packages canon and weights: Right, Longest, Of.
  Walks over package weights: ToTree, Implied.
-/
import Derived.Test.YtophgpnnjphnmaaGreatQ16
import Derived.Test.YtophgpnnjphnmaaGreatQ28
import Derived.Test.YtophgpnnjphnmaaGreatQ4
import Derived.Test.YtophgpnnjphnmaaGreatQ27
namespace Go.Proofs.YtophgpnnjphnmaaGreat
section
set_option linter.unusedVariables false
set_option linter.unusedSimpArgs false
set_option linter.unusedSectionVars false
open Go.RowKit

/-- The m weights that a description in format 1 says, or an error, and where the cursor stands. -/
def codedR (B : List Int) (k m : Nat) : Except Int (List Int) × Nat :=
  match descP ((B.drop k).take 1024) 12 6 with
  | .error e => (.error e, k)
  | .ok (g, norm, nb) =>
    if numE B (k + nb) 131072 ≠ 0 then (.error (numE B (k + nb) 131072), numK B (k + nb) 131072) else
    if bytesE B (numK B (k + nb) 131072) (numX B (k + nb) 131072 : Nat) ≠ 0 then (.error (bytesE B (numK B (k + nb) 131072) (numX B (k + nb) 131072 : Nat)), bytesK B (numK B (k + nb) 131072) (numX B (k + nb) 131072 : Nat)) else
    (flowD (g : Int) norm (bytesX B (numK B (k + nb) 131072) (numX B (k + nb) 131072 : Nat)) m, bytesK B (numK B (k + nb) 131072) (numX B (k + nb) 131072 : Nat))
end

section
set_option linter.unusedVariables false
set_option linter.unusedSimpArgs false
set_option linter.unusedSectionVars false
open Go.RowKit
end

section
set_option linter.unusedVariables false
set_option linter.unusedSimpArgs false
set_option linter.unusedSectionVars false
open Go.RowKit

set_option maxHeartbeats 600000 in
/-- The deferred function where an error was raised: the result is cleared, the error is laid. -/
theorem wcaught_from (pe po : Nat) (n : Int) (x z : Value) (te tq : TypeId) (older : List PanicEntry) (w : World) (he : Blk w pe #[z] te) (ho : Blk w po #[x] tq) (h1 : pe ≠ po) :
    CallsD Tryz.prog 35 #[.pointer (some ⟨pe, 0, none⟩), .func (.func 36) #[] #[.pointer (some ⟨po, 0, none⟩)]] (.panicking (raisedBy n false :: older)) w fun e u' w' =>
      e = .returned (.tuple #[]) ∧ u' = .panicking (raisedBy n true :: older) ∧ w' = (w.setCell ⟨po, 0, none⟩ (.slice none 0 0)).setCell ⟨pe, 0, none⟩ (.int .i64 n) := by
  obtain ⟨c0, f0⟩ := he.one
  obtain ⟨c1, f1⟩ := ho.one
  have hta : ∀ w : World, (Instr.typeAssert (.iface 24 (.int .i64 n)) 20 24 true).run Tryz.prog w = .ok (.tuple #[.int .i64 n, .bool true]) w := fun _ => by kernel_rfl
  have h1' := h1.symm
  refine callsD_of_wpS Tryz.func35 rfl fun c₀ cs hu => ?_
  simp only [Tryz.ntmps35, List.size_toArray, List.length_cons, List.length_nil, Nat.reduceAdd, Nat.reduceSub, Array.replicate_succ, Array.replicate_zero, List.push_toArray, List.append_toArray, List.nil_append, List.cons_append]
  apply wpS_seq
  apply wpS_region
  simp [wpOpsS, go_sem, recoverD, hu, Exit.thenS, raisedBy]
  refine wpS_of_wp ?_
  have HU := Lib.hid hu
  clear hu
  go_wp2
  go_end0
  go_wp2
  refine ⟨rfl, .panicking (raisedBy n true :: older), ?_, .tuple #[], by simp [results, Tryz.results35], rfl, rfl, rfl⟩
  simp [raisedBy]

set_option maxHeartbeats 600000 in
/-- The deferred function where an error was raised: the result is cleared, the error is laid. -/
theorem wcaught_tree (pe po : Nat) (n : Int) (x z : Value) (te tq : TypeId) (older : List PanicEntry) (w : World) (he : Blk w pe #[z] te) (ho : Blk w po #[x] tq) (h1 : pe ≠ po) :
    CallsD Tryz.prog 35 #[.pointer (some ⟨pe, 0, none⟩), .func (.func 39) #[] #[.pointer (some ⟨po, 0, none⟩)]] (.panicking (raisedBy n false :: older)) w fun e u' w' =>
      e = .returned (.tuple #[]) ∧ u' = .panicking (raisedBy n true :: older) ∧ w' = (w.setCell ⟨po, 0, none⟩ (.slice none 0 0)).setCell ⟨pe, 0, none⟩ (.int .i64 n) := by
  obtain ⟨c0, f0⟩ := he.one
  obtain ⟨c1, f1⟩ := ho.one
  have hta : ∀ w : World, (Instr.typeAssert (.iface 24 (.int .i64 n)) 20 24 true).run Tryz.prog w = .ok (.tuple #[.int .i64 n, .bool true]) w := fun _ => by kernel_rfl
  have h1' := h1.symm
  refine callsD_of_wpS Tryz.func35 rfl fun c₀ cs hu => ?_
  simp only [Tryz.ntmps35, List.size_toArray, List.length_cons, List.length_nil, Nat.reduceAdd, Nat.reduceSub, Array.replicate_succ, Array.replicate_zero, List.push_toArray, List.append_toArray, List.nil_append, List.cons_append]
  apply wpS_seq
  apply wpS_region
  simp [wpOpsS, go_sem, recoverD, hu, Exit.thenS, raisedBy]
  refine wpS_of_wp ?_
  have HU := Lib.hid hu
  clear hu
  go_wp2
  go_end0
  go_wp2
  refine ⟨rfl, .panicking (raisedBy n true :: older), ?_, .tuple #[], by simp [results, Tryz.results35], rfl, rfl, rfl⟩
  simp [raisedBy]

set_option maxHeartbeats 600000 in
/-- The deferred function where an error was raised: the result is cleared, the error is laid. -/
theorem wcaught_last (pe po : Nat) (n : Int) (x z : Value) (te tq : TypeId) (older : List PanicEntry) (w : World) (he : Blk w pe #[z] te) (ho : Blk w po #[x] tq) (h1 : pe ≠ po) :
    CallsD Tryz.prog 35 #[.pointer (some ⟨pe, 0, none⟩), .func (.func 42) #[] #[.pointer (some ⟨po, 0, none⟩)]] (.panicking (raisedBy n false :: older)) w fun e u' w' =>
      e = .returned (.tuple #[]) ∧ u' = .panicking (raisedBy n true :: older) ∧ w' = (w.setCell ⟨po, 0, none⟩ (.int .i64 0)).setCell ⟨pe, 0, none⟩ (.int .i64 n) := by
  obtain ⟨c0, f0⟩ := he.one
  obtain ⟨c1, f1⟩ := ho.one
  have hta : ∀ w : World, (Instr.typeAssert (.iface 24 (.int .i64 n)) 20 24 true).run Tryz.prog w = .ok (.tuple #[.int .i64 n, .bool true]) w := fun _ => by kernel_rfl
  have h1' := h1.symm
  refine callsD_of_wpS Tryz.func35 rfl fun c₀ cs hu => ?_
  simp only [Tryz.ntmps35, List.size_toArray, List.length_cons, List.length_nil, Nat.reduceAdd, Nat.reduceSub, Array.replicate_succ, Array.replicate_zero, List.push_toArray, List.append_toArray, List.nil_append, List.cons_append]
  apply wpS_seq
  apply wpS_region
  simp [wpOpsS, go_sem, recoverD, hu, Exit.thenS, raisedBy]
  refine wpS_of_wp ?_
  have HU := Lib.hid hu
  clear hu
  go_wp2
  go_end0
  go_wp2
  refine ⟨rfl, .panicking (raisedBy n true :: older), ?_, .tuple #[], by simp [results, Tryz.results35], rfl, rfl, rfl⟩
  simp [raisedBy]

set_option maxHeartbeats 600000 in
/-- The deferred function where an error was raised: the result is cleared, the error is laid. -/
theorem wcaught_desc (pe po : Nat) (n : Int) (x z : Value) (te tq : TypeId) (older : List PanicEntry) (w : World) (he : Blk w pe #[z] te) (ho : Blk w po #[x] tq) (h1 : pe ≠ po) :
    CallsD Tryz.prog 35 #[.pointer (some ⟨pe, 0, none⟩), .func (.func 66) #[] #[.pointer (some ⟨po, 0, none⟩)]] (.panicking (raisedBy n false :: older)) w fun e u' w' =>
      e = .returned (.tuple #[]) ∧ u' = .panicking (raisedBy n true :: older) ∧ w' = (w.setCell ⟨po, 0, none⟩ (.slice none 0 0)).setCell ⟨pe, 0, none⟩ (.int .i64 n) := by
  obtain ⟨c0, f0⟩ := he.one
  obtain ⟨c1, f1⟩ := ho.one
  have hta : ∀ w : World, (Instr.typeAssert (.iface 24 (.int .i64 n)) 20 24 true).run Tryz.prog w = .ok (.tuple #[.int .i64 n, .bool true]) w := fun _ => by kernel_rfl
  have h1' := h1.symm
  refine callsD_of_wpS Tryz.func35 rfl fun c₀ cs hu => ?_
  simp only [Tryz.ntmps35, List.size_toArray, List.length_cons, List.length_nil, Nat.reduceAdd, Nat.reduceSub, Array.replicate_succ, Array.replicate_zero, List.push_toArray, List.append_toArray, List.nil_append, List.cons_append]
  apply wpS_seq
  apply wpS_region
  simp [wpOpsS, go_sem, recoverD, hu, Exit.thenS, raisedBy]
  refine wpS_of_wp ?_
  have HU := Lib.hid hu
  clear hu
  go_wp2
  go_end0
  go_wp2
  refine ⟨rfl, .panicking (raisedBy n true :: older), ?_, .tuple #[], by simp [results, Tryz.results35], rfl, rfl, rfl⟩
  simp [raisedBy]

set_option maxRecDepth 100000 in
set_option maxHeartbeats 2000000 in
theorem fromTree_no (v : Value) (l : List Int) (w : World) (hv : RdI .i64 w v l) (hn : l.length ≤ 1000000) (ht : treeL l = false) : Calls Tryz.prog 13 #[v] w (LsEnd w [] 12) := by
  have hmf : ∀ (fn : Fn) (first cap : Array Value) (w : World), (Instr.makeFunc fn first cap).run Tryz.prog w = .ok (.func fn first cap) w := fun _ _ _ _ => rfl
  have HO := Lib.hid (fun w' (k : Keeps w w' []) => wof_no v l w' (hv.keeps k) hn ht)
  obtain ⟨A0, n, cp0, rfl, -, -⟩ := hv.form
  clear hv ht
  go_enter_defers Tryz.func13, Tryz.ntmps13
  go_wp2_with fail
  have k0 : Keeps w ((w.alloc (.cells #[.slice none 0 0] 22)).alloc (.cells #[.int .i64 0] 24)) [] := ((Keeps.refl w []).alloc _).alloc _
  have bo := (Blk.new w #[.slice none 0 0] 22).alloc (.cells #[.int .i64 0] 24)
  have be := Blk.new (w.alloc (.cells #[.slice none 0 0] 22)) #[.int .i64 0] 24
  simp only [World.size_alloc] at be
  refine (HO.out _ k0).mono ?_
  rintro e w1 ⟨rfl, k1⟩
  replace bo := bo.keeps k1 (by simp)
  replace be := be.keeps k1 (by simp)
  replace k0 := k0.then k1
  clear k1
  obtain ⟨e0, e1⟩ := be.one
  obtain ⟨o0, o1⟩ := bo.one
  go_wp2_with fail
  refine leaves_cons (f := 35) (args := #[.pointer (some ⟨w.heap.size + 1, 0, none⟩), .func (.func 36) #[] #[.pointer (some ⟨w.heap.size, 0, none⟩)]]) (by simp) (by simp [go_sem]) ?_
  refine (wcaught_from _ _ 12 _ _ _ _ [] _ be bo (by omega)).mono ?_
  rintro e u' w'' ⟨rfl, rfl, rfl⟩
  refine ⟨.tuple #[.slice none 0 0, .int .i64 12], by simp only [results, Tryz.results13]; go_simp, ?_⟩
  refine ⟨_, rfl, .nil, .nil, ?_⟩
  exact Keeps.setCell' (.inl (by dsimp only; omega)) (Keeps.setCell' (.inl (by dsimp only; omega)) k0)

set_option maxRecDepth 100000 in
set_option maxHeartbeats 2000000 in
theorem fromTree_yes (v : Value) (l : List Int) (w : World) (hv : RdI .i64 w v l) (hn : l.length ≤ 1000000) (ht : treeL l = true) : Calls Tryz.prog 13 #[v] w (LsEnd w (wOf l) 0) := by
  have hmf : ∀ (fn : Fn) (first cap : Array Value) (w : World), (Instr.makeFunc fn first cap).run Tryz.prog w = .ok (.func fn first cap) w := fun _ _ _ _ => rfl
  have HO := Lib.hid (fun w' (k : Keeps w w' []) => wof_yes v l w' (hv.keeps k) hn ht)
  obtain ⟨A0, n, cp0, rfl, -, -⟩ := hv.form
  clear hv ht
  go_enter_defers Tryz.func13, Tryz.ntmps13
  go_wp2_with fail
  have k0 : Keeps w ((w.alloc (.cells #[.slice none 0 0] 22)).alloc (.cells #[.int .i64 0] 24)) [] := ((Keeps.refl w []).alloc _).alloc _
  have bo := (Blk.new w #[.slice none 0 0] 22).alloc (.cells #[.int .i64 0] 24)
  have be := Blk.new (w.alloc (.cells #[.slice none 0 0] 22)) #[.int .i64 0] 24
  simp only [World.size_alloc] at be
  refine (HO.out _ k0).mono ?_
  rintro e w1 ⟨v1, rfl, r1, f1, k1⟩
  replace bo := bo.keeps k1 (by simp)
  replace be := be.keeps k1 (by simp)
  replace k0 := k0.then k1
  clear k1
  simp only [World.size_alloc] at f1
  obtain ⟨a1, n1, c1, rfl, -, -⟩ := r1.form
  obtain ⟨e0, e1⟩ := be.one
  obtain ⟨o0, o1⟩ := bo.one
  have R1 := Lib.hid r1
  clear r1
  go_wp2_with fail
  refine leaves_cons (f := 35) (args := #[.pointer (some ⟨w.heap.size + 1, 0, none⟩), .func (.func 36) #[] #[.pointer (some ⟨w.heap.size, 0, none⟩)]]) (by simp) (by simp [go_sem]) ?_
  refine (wcaught_idle _ _ _).mono ?_
  rintro e u' w'' ⟨rfl, rfl, rfl⟩
  refine ⟨.tuple #[.slice a1 n1 c1, .int .i64 0], by simp only [results, Tryz.results13]; go_simp, ?_⟩
  have kx : Keeps w1 ((w1.setCell ⟨w.heap.size, 0, none⟩ (.slice a1 n1 c1)).setCell ⟨w.heap.size + 1, 0, none⟩ (.int .i64 0)) [w.heap.size, w.heap.size + 1] := Keeps.setCell' (.inr (by simp)) (Keeps.setCell' (.inr (by simp)) (Keeps.refl _ _))
  refine ⟨_, rfl, R1.out.keepsS kx (fun ad m c he _ hm => ?_), f1.mono (by omega), Keeps.setCell' (.inl (by dsimp only; omega)) (Keeps.setCell' (.inl (by dsimp only; omega)) k0)⟩
  have := f1 ad m c he
  simp at hm
  omega
end

section
set_option linter.unusedVariables false
set_option linter.unusedSimpArgs false
set_option linter.unusedSectionVars false
open Go.RowKit

theorem shr_sum {S X : Nat} (h1 : 1 ≤ X) (hX : X ≤ 11) (hS : S ≤ 1024000000) : wrap64 ((S : Int) + 2048 / (2 : Int) ^ X) = ((S + (if 0 < (X : Int) then 2 ^ (11 - X) else 0) : Nat) : Int) := by
  have h : X = 1 ∨ X = 2 ∨ X = 3 ∨ X = 4 ∨ X = 5 ∨ X = 6 ∨ X = 7 ∨ X = 8 ∨ X = 9 ∨ X = 10 ∨ X = 11 := by omega
  rcases h with rfl | rfl | rfl | rfl | rfl | rfl | rfl | rfl | rfl | rfl | rfl <;> simp [wrap64] <;> omega

set_option maxHeartbeats 2000000 in
theorem r_right14 (v : Value) (l : List Int) (w : World) (hv : RdI .i64 w v l) (hn : l.length ≤ 1000000) :
    Calls Tryz.prog 19 #[v] w fun e w' => e = .returned (.bool (treeL l)) ∧ w = w' := by
  obtain ⟨A0, n, cp0, rfl, hnl, -⟩ := hv.form
  have HV := Lib.hid hv
  have HN := Lib.hid hnl
  have hn' : n ≤ 1000000 := by omega
  obtain ⟨R, hR⟩ : ∃ R, R = treeL l := ⟨_, rfl⟩
  have HR := Lib.hid hR
  rw [← hR]
  clear hv hnl hn hR
  by_cases h256 : 256 < n
  · have NO : R = false := by rw [HR.out, Bool.eq_false_iff]; intro h; have := (treeL_iff.1 h).1; have := HN.out; omega
    subst NO
    have h256' : (256 : Int) < (n : Int) := by omega
    clear HR
    go_enter Tryz.func19, Tryz.ntmps19
    go_wp2_with fail
    go_ret
    exact ⟨rfl, rfl⟩
  · have d256 : decide ((256 : Int) < (n : Int)) = false := decide_eq_false (by omega)
    have hn2 : n ≤ 256 := by omega
    go_enter Tryz.func19, Tryz.ntmps19
    go_wp2_with fail
    clear d256
    go_loop [3, 4, 5] (fun s c i => ∃ k : Nat, k ≤ n ∧ i = .int .i64 k ∧ s = .int .i64 (sum11 (l.take k) : Nat) ∧ c = .int .i64 (usedL (l.take k)).length ∧ Hid ((l.take k).all (finM 11) = true)) (fun _ _ i => n - (intOf i).toNat)
    case atStart => exact ⟨0, Nat.zero_le _, rfl, rfl, rfl, by simp [Hid]⟩
    case round =>
      obtain ⟨k, hk, rfl, rfl, rfl, hall⟩ := hrel
      by_cases hlt : k < n
      · obtain ⟨x, hx⟩ : ∃ x, l[k]? = some x := ⟨_, List.getElem?_eq_getElem (by have := HN.out; omega)⟩
        obtain ⟨b, o, rfl, hb, hc⟩ := HV.out.at hx
        have hcap := HV.out.cap
        have hkn : (k : Int) < (n : Int) := by omega
        have hs1 := sum11_le (l.take k)
        have hs2 : (l.take k).length ≤ k := List.length_take_le _ _
        have hu1 : (usedL (l.take k)).length ≤ k := by have := usedL_len (l.take k); simp at this; omega
        have HST : Hid (sum11 (l.take (k + 1)) = sum11 (l.take k) + if 0 < x then 2 ^ (11 - x.toNat) else 0) := by show _ = _; rw [take_next hx, sum11_snoc]
        have HUC := Lib.hid (usedL_count hx)
        have HAL : Hid (finM 11 x = true → (l.take (k + 1)).all (finM 11) = true) := fun h => by rw [take_next hx, List.all_append, hall.out]; simp [h]
        have HBAD : Hid (finM 11 x = false → R = false) := fun h => by
          rw [HR.out, Bool.eq_false_iff]
          intro ht
          have := (treeL_iff.1 ht).2.1 x (List.mem_of_getElem? hx)
          rw [← Bool.not_eq_true, finM_iff] at h
          exact h this
        obtain ⟨S, hS⟩ : ∃ S, S = sum11 (l.take k) := ⟨_, rfl⟩
        obtain ⟨U, hU⟩ : ∃ U, U = (usedL (l.take k)).length := ⟨_, rfl⟩
        rw [← hS] at hs1 HST ⊢
        rw [← hU] at hu1 HUC ⊢
        have hS9 : S ≤ 1024000000 := by omega
        have hU9 : (U : Int) ≤ 1000000 := by omega
        clear hx hS hU hs1 hs2
        by_cases hx0 : x < 0
        · obtain rfl := HBAD.out (by simp [finM]; omega)
          clear HR
          go_wp2_with fail
          go_ret
          exact ⟨rfl, rfl⟩
        · have d0 : decide (x < 0) = false := decide_eq_false hx0
          by_cases hx11 : 11 < x
          · obtain rfl := HBAD.out (by simp [finM]; omega)
            clear HR
            go_wp2_with fail
            go_ret
            exact ⟨rfl, rfl⟩
          · have d1 : decide (11 < x) = false := decide_eq_false hx11
            have NAL := Lib.hid (HAL.out (finM_iff.2 ⟨by omega, by omega⟩))
            by_cases hp : 0 < x
            · obtain ⟨X, rfl⟩ : ∃ X : Nat, x = (X : Int) := ⟨x.toNat, by omega⟩
              have hX1 : 1 ≤ X := by omega
              have hX2 : X ≤ 11 := by omega
              have hsum : Hid (wrap64 ((S : Int) + 2048 / (2 : Int) ^ X) = ((sum11 (l.take (k + 1)) : Nat) : Int)) := by
                show _ = _
                rw [shr_sum hX1 hX2 hS9, HST.out, Int.toNat_natCast]
              clear HBAD HAL HST
              go_wp2_with fail
              go_round
              case rel => exact ⟨k + 1, by omega, by go_num, by rw [hsum.out], by rw [HUC.out, if_pos hp]; go_num, NAL⟩
              case measure => simp [intOf]; omega
            · have d2 : decide (0 < x) = false := decide_eq_false hp
              clear HBAD HAL
              go_wp2_with fail
              go_round
              case rel => exact ⟨k + 1, by omega, by go_num, by rw [HST.out, if_neg hp, Nat.add_zero], by rw [HUC.out, if_neg hp, Nat.add_zero], NAL⟩
              case measure => simp [intOf]; omega
      · obtain rfl : k = n := by omega
        have hR2 : Hid (R = (decide (2 ≤ ((usedL (l.take k)).length : Int)) && ((sum11 (l.take k) : Nat) : Int) == 2048)) := by
          have e : l.take k = l := List.take_of_length_le (by have := HN.out; omega)
          have h1 := hall.out
          rw [e] at h1
          show _ = _
          rw [HR.out, e, Bool.eq_iff_iff]
          have h2 := HN.out
          simp [treeL, h1, ← h2]
          omega
        have HR2 := Lib.hid hR2.out
        clear hR2 HR
        generalize sum11 (l.take k) = S at *
        generalize (usedL (l.take k)).length = U at *
        go_wp2_with fail
        all_goals
          go_ret
          refine ⟨ret_bool ?_, rfl⟩
          rw [HR2.out]
          first | (simp [*]; done) | (simp [*]; omega)
end

section
set_option linter.unusedVariables false
set_option linter.unusedSimpArgs false
set_option linter.unusedSectionVars false
open Go.RowKit

theorem r_longest (v : Value) (l : List Int) (w : World) (hv : RdI .i64 w v l) (hn : l.length ≤ 1000000) :
    Calls Tryz.prog 38 #[v] w fun e w' => e = .returned (.tuple #[.int .i64 (if treeL l then mxL l else 0), .int .i64 (if treeL l then 0 else 12)]) ∧ w = w' := by
  have HRT := Lib.hid (r_right14 v l w hv hn)
  obtain ⟨A0, n, cp0, rfl, hnl, -⟩ := hv.form
  have HV := Lib.hid hv
  have HN := Lib.hid hnl
  have hn' : n ≤ 1000000 := by omega
  clear hv hnl hn
  cases ht : treeL l with
  | false =>
    rw [ht] at HRT
    clear ht
    simp only [Bool.false_eq_true, if_false]
    go_enter Tryz.func38, Tryz.ntmps38
    go_wp2_with (first | (go_at_call 19; refine HRT.out.mono ?_; rintro e w' ⟨rfl, rfl⟩))
    go_ret2
    exact ⟨rfl, rfl⟩
  | true =>
    rw [ht] at HRT
    clear ht
    simp only [if_true]
    go_enter Tryz.func38, Tryz.ntmps38
    go_wp2_with (first | (go_at_call 19; refine HRT.out.mono ?_; rintro e w' ⟨rfl, rfl⟩))
    go_loop [4, 5] (fun m i => ∃ k : Nat, k ≤ n ∧ i = .int .i64 k ∧ m = .int .i64 (mxL (l.take k))) (fun _ i => n - (intOf i).toNat)
    case atStart => exact ⟨0, Nat.zero_le _, rfl, rfl⟩
    case round =>
      obtain ⟨k, hk, rfl, rfl⟩ := hrel
      by_cases hlt : k < n
      · obtain ⟨x, hx⟩ : ∃ x, l[k]? = some x := ⟨_, List.getElem?_eq_getElem (by have := HN.out; omega)⟩
        obtain ⟨b, o, rfl, hb, hc⟩ := HV.out.at hx
        have hcap := HV.out.cap
        have hkn : (k : Int) < (n : Int) := by omega
        have HM : Hid (mxL (l.take (k + 1)) = max (mxL (l.take k)) x) := by show _ = _; rw [take_next hx, mxL_snoc]
        obtain ⟨M, hM⟩ : ∃ M, M = mxL (l.take k) := ⟨_, rfl⟩
        rw [← hM] at HM ⊢
        clear hM hx
        go_wp2_with fail
        go_round
        case rel => exact ⟨k + 1, by omega, by go_num, by rw [HM.out]⟩
        case measure => simp [intOf]; omega
      · obtain rfl : k = n := by omega
        have e : l.take k = l := List.take_of_length_le (by have := HN.out; omega)
        rw [e]
        go_wp2_with fail
        go_ret2
        exact ⟨rfl, rfl⟩

/-- What both return: the weights, or the error. -/
def fromOut (l : List Int) : List Int := if treeL l then wOf l else []
def fromErr (l : List Int) : Int := if treeL l then 0 else 12

theorem r_of_no (v : Value) (l : List Int) (w : World) (hv : RdI .i64 w v l) (hn : l.length ≤ 1000000) (ht : treeL l = false) : Calls Tryz.prog 14 #[v] w (LsEnd w [] 12) := by
  have HL := Lib.hid (r_longest v l w hv hn)
  rw [ht] at HL
  simp only [Bool.false_eq_true, if_false] at HL
  obtain ⟨A0, n, cp0, rfl, -, -⟩ := hv.form
  clear hv ht
  go_enter Tryz.func14, Tryz.ntmps14
  go_wp2_with (first | (go_at_call 38; refine HL.out.mono ?_; rintro e w' ⟨rfl, rfl⟩))
  go_ret2
  exact ⟨_, rfl, .nil, .nil, Keeps.refl _ _⟩

set_option maxHeartbeats 2000000 in
theorem r_of_yes (v : Value) (l : List Int) (w : World) (hv : RdI .i64 w v l) (hn : l.length ≤ 1000000) (ht : treeL l = true) : Calls Tryz.prog 14 #[v] w (LsEnd w (wOf l) 0) := by
  have HL := Lib.hid (r_longest v l w hv hn)
  rw [ht] at HL
  simp only [if_true] at HL
  obtain ⟨A0, n, cp0, rfl, hnl, -⟩ := hv.form
  have HV := Lib.hid hv
  have HN := Lib.hid hnl
  have hn' : n ≤ 256 := by have := (treeL_iff.1 ht).1; omega
  have HB := Lib.hid (fun x hx => (treeL_iff.1 ht).2.1 x hx)
  have hus := (treeL_iff.1 ht).2.2.1
  have hn1 : 2 ≤ n := by have := usedL_len l; omega
  have HUS := Lib.hid hus
  have hM0 := mxL_nonneg l
  have hM1 : mxL l ≤ 11 := mxL_le (by omega) (fun x hx => (HB.out x hx).2)
  obtain ⟨D, hD⟩ : ∃ D, D = lastU l := ⟨_, rfl⟩
  have HDL := Lib.hid (hD ▸ lastU_le l)
  have HFL : Hid (∀ k, k ≤ n → (fillL (wgt (mxL l)) l k).length = n) := fun k hk => by rw [fillL_len _ (by have := HN.out; omega), HN.out]
  have HT0 := Lib.hid hD
  have HDd : Hid (lastU l = D) := hD.symm
  obtain ⟨M, hM⟩ : ∃ M, M = mxL l := ⟨_, rfl⟩
  have HOUT : Hid (wOf l = (l.take D).map (wgt M)) := by show _ = _; rw [wOf, ← List.map_take, hD, hM]
  rw [← hM] at hM0 hM1 HL
  clear hv hnl hn ht hM hD HFL hus
  go_enter Tryz.func14, Tryz.ntmps14
  go_wp2_with (first | (go_at_call 38; refine HL.out.mono ?_; rintro e w' ⟨rfl, rfl⟩))
  go_loop [6] (fun m => ∃ k : Nat, k + 1 ≤ n ∧ m = .int .i64 k ∧ Hid (lastU (l.take (k + 1)) = D ∧ 1 < (usedL (l.take (k + 1))).length)) (fun m => (intOf m).toNat)
  case atStart =>
    obtain ⟨q, rfl⟩ : ∃ q, n = q + 1 := ⟨n - 1, by omega⟩
    refine ⟨q, Nat.le_refl _, by go_num, ?_⟩
    have e : l.take (q + 1) = l := List.take_of_length_le (by have := HN.out; omega)
    show _ ∧ _
    rw [e]
    exact ⟨HDd.out, HUS.out⟩
  case round =>
    obtain ⟨k, hk, rfl, hinv⟩ := hrel
    obtain ⟨x, hx⟩ : ∃ x, l[k]? = some x := ⟨_, List.getElem?_eq_getElem (by have := HN.out; omega)⟩
    obtain ⟨b, o, rfl, hb, hc⟩ := HV.out.at hx
    have hcap := HV.out.cap
    have hxb := HB.out x (List.mem_of_getElem? hx)
    have hkn : (k : Int) < (n : Int) := by omega
    have HLU := Lib.hid (lastU_take hx)
    have HUC := Lib.hid (usedL_count hx)
    clear hx
    by_cases h0 : x = 0
    · subst h0
      have hk1 : 1 ≤ k := by
        have h1 := hinv.out.2
        have h2 := HUC.out
        have h3 := usedL_len (l.take k)
        simp at h2 h3
        omega
      have hk1' : (1 : Int) ≤ (k : Int) := by omega
      go_wp2_with fail
      go_round
      case rel =>
        obtain ⟨q, rfl⟩ : ∃ q, k = q + 1 := ⟨k - 1, by omega⟩
        refine ⟨q, by omega, by go_num, ?_⟩
        have h1 := hinv.out
        rw [HLU.out, HUC.out] at h1
        simp at h1
        exact h1
      case measure => simp [intOf]; omega
    · have hp : 0 < x := by omega
      have d0 : (x == (0 : Int)) = false := by simpa using h0
      obtain rfl : k = D := by have := hinv.out.1; rw [HLU.out, if_pos hp] at this; exact this
      have hmk : ∀ w, (Instr.makeSlice 22 (.int .i64 (k : Int)) (.int .i64 (k : Int))).run Tryz.prog w = .ok (.slice (some ⟨w.heap.size, 0, none⟩) k k) (w.alloc (.cells (ints (List.replicate k 0)) 3)) := make_ints k (by omega)
      clear hinv HLU HUC hxb
      have hkl : (l.take k).length = k := by have := HN.out; simp; omega
      obtain ⟨P, hP⟩ : ∃ P, P = l.take k := ⟨_, rfl⟩
      rw [← hP] at hkl HOUT
      have HPL := Lib.hid hkl
      have HG : Hid (∀ i x, i < k → l[i]? = some x → P[i]? = some x) := fun i x hi hx => by rw [hP, List.getElem?_take, if_pos hi]; exact hx
      have HZ : Hid (fillL (wgt M) P 0 = List.replicate k 0) := by show _ = _; rw [fillL_zero, HPL.out]
      have HFL : Hid (∀ i, i ≤ k → (fillL (wgt M) P i).length = k) := fun i hi => by rw [fillL_len _ (by have := HPL.out; omega), HPL.out]
      have HST : Hid (∀ i x, P[i]? = some x → 0 < x → (fillL (wgt M) P i).set i (M + 1 - x) = fillL (wgt M) P (i + 1)) := fun i x hx h0 => by
        have := fillL_set (f := wgt M) hx
        rw [← this, wgt, if_pos h0]
      have HSN : Hid (∀ i x, P[i]? = some x → ¬ 0 < x → fillL (wgt M) P (i + 1) = fillL (wgt M) P i) := fun i x hx h0 => fillL_same hx (by rw [wgt, if_neg h0])
      rw [← fillL_all (wgt M) (show P.length ≤ k by omega)] at HOUT
      generalize wgt M = F at *
      clear hkl hP
      go_wp2_with fail
      have b0 := Blk.new w (ints (List.replicate k 0)) 3
      have k0 := ((Keeps.refl w []).alloc (.cells (ints (List.replicate k 0)) 3))
      rw [← HZ.out] at b0 k0 ⊢
      obtain ⟨G, hG⟩ : ∃ G, G = w.heap.size := ⟨_, rfl⟩
      rw [← hG] at b0 ⊢
      have hGw : w.heap.size ≤ G := by omega
      have hxc := hc
      clear hG hmk hc
      generalize w.alloc (.cells (ints (fillL F P 0)) 3) = w2 at *
      go_loopw [8] (fun i wr => ∃ j : Nat, j ≤ k ∧ i = .int .i64 j ∧ Hid (Blk wr G (ints (fillL F P j)) 3) ∧ Hid (Keeps w wr [])) (fun i _ => k - (intOf i).toNat)
      case atStart => exact ⟨0, Nat.zero_le _, rfl, Lib.hid b0, Lib.hid k0⟩
      case round =>
        clear b0 k0
        obtain ⟨j, hj, rfl, BK, KK⟩ := hrel
        by_cases hjt : j < k
        · obtain ⟨y, hy⟩ : ∃ y, l[j]? = some y := ⟨_, List.getElem?_eq_getElem (by have := HN.out; omega)⟩
          obtain ⟨b', o', hbo, hb', hcy⟩ := HV.out.at hy
          obtain ⟨rfl, rfl⟩ : b = b' ∧ o = o' := by simpa using hbo
          clear hbo
          have hc' := (KK.out.cell (p := ⟨b, o + j, none⟩) hb (by simp)).trans hcy
          have hyb := HB.out y (List.mem_of_getElem? hy)
          have hjk : (j : Int) < (k : Int) := by omega
          have hjn : (j : Int) < (n : Int) := by omega
          have hPy := HG.out j y hjt hy
          obtain ⟨z, hz⟩ : ∃ z, (fillL F P j)[j]? = some z := ⟨_, List.getElem?_eq_getElem (by have := HFL.out j hj; omega)⟩
          have hbc := (BK.out.cell j).trans (ints_get hz)
          have hbf := BK.out.frozen j
          have hst := Lib.hid (HST.out j y hPy)
          have hsn := Lib.hid (HSN.out j y hPy)
          clear hy hcy hz hPy
          by_cases h0 : 0 < y
          · have NB : Hid (Blk (wr.setCell ⟨G, j, none⟩ (.int .i64 (M + 1 - y))) G (ints (fillL F P (j + 1))) 3) := by
              rw [← hst.out h0]
              show Blk _ _ _ _
              rw [← ints_set]
              exact BK.out.set j _
            have NK : Hid (Keeps w (wr.setCell ⟨G, j, none⟩ (.int .i64 (M + 1 - y))) []) := KK.out.setCell (.inl (by dsimp only; omega)) _
            clear hst hsn
            go_wp2_with fail
            go_roundw
            case rel => exact ⟨j + 1, by omega, by go_num, NB, NK⟩
            case measure => simp [intOf]; omega
          · have d0 : decide (0 < y) = false := decide_eq_false h0
            have NB : Hid (Blk wr G (ints (fillL F P (j + 1))) 3) := by rw [hsn.out (by omega)]; exact BK.out
            clear hst hsn
            go_wp2_with fail
            go_roundw
            case rel => exact ⟨j + 1, by omega, by go_num, NB, KK⟩
            case measure => simp [intOf]; omega
        · obtain rfl : j = k := by omega
          have HR := Lib.hid (ints_reads BK.out (m := j) (by have := HFL.out j (by omega); omega))
          rw [List.take_of_length_le (by have := HFL.out j (by omega); omega), ← HOUT.out] at HR
          clear BK
          go_wp2_with fail
          go_ret2
          exact ⟨_, rfl, HR.out, (fun ad m c he => by cases he; exact hGw), KK.out⟩

/-- Of, whatever it is asked. -/
theorem r_of (v : Value) (l : List Int) (w : World) (hv : RdI .i64 w v l) (hn : l.length ≤ 1000000) : Calls Tryz.prog 14 #[v] w (LsEnd w (fromOut l) (fromErr l)) := by
  cases ht : treeL l with
  | false => simpa [fromOut, fromErr, ht] using r_of_no v l w hv hn ht
  | true => simpa [fromOut, fromErr, ht] using r_of_yes v l w hv hn ht
theorem fromTree_any (v : Value) (l : List Int) (w : World) (hv : RdI .i64 w v l) (hn : l.length ≤ 1000000) : Calls Tryz.prog 13 #[v] w (LsEnd w (fromOut l) (fromErr l)) := by
  cases ht : treeL l with
  | false => simpa [fromOut, fromErr, ht] using fromTree_no v l w hv hn ht
  | true => simpa [fromOut, fromErr, ht] using fromTree_yes v l w hv hn ht
end

section
set_option linter.unusedVariables false
set_option linter.unusedSimpArgs false
set_option linter.unusedSectionVars false
open Go.RowKit

set_option maxRecDepth 100000 in
set_option maxHeartbeats 2000000 in
theorem toTree_no (v : Value) (l : List Int) (w : World) (hv : RdI .i64 w v l) (hn : l.length ≤ 1000000) (ht : okW l = false) : Calls Tryz.prog 17 #[v] w (LsEnd w [] 12) := by
  have hmf : ∀ (fn : Fn) (first cap : Array Value) (w : World), (Instr.makeFunc fn first cap).run Tryz.prog w = .ok (.func fn first cap) w := fun _ _ _ _ => rfl
  have HO := Lib.hid (fun w' (k : Keeps w w' []) => (wtree_any v l w' (hv.keeps k) hn).mono fun e w'' h => (⟨h.2.2 ht, h.1⟩ : e = .panicked [raisedBy 12 false] ∧ Keeps w' w'' []))
  obtain ⟨A0, n, cp0, rfl, -, -⟩ := hv.form
  clear hv ht
  go_enter_defers Tryz.func17, Tryz.ntmps17
  go_wp2_with fail
  have k0 : Keeps w ((w.alloc (.cells #[.slice none 0 0] 22)).alloc (.cells #[.int .i64 0] 24)) [] := ((Keeps.refl w []).alloc _).alloc _
  have bo := (Blk.new w #[.slice none 0 0] 22).alloc (.cells #[.int .i64 0] 24)
  have be := Blk.new (w.alloc (.cells #[.slice none 0 0] 22)) #[.int .i64 0] 24
  simp only [World.size_alloc] at be
  refine (HO.out _ k0).mono ?_
  rintro e w1 ⟨rfl, k1⟩
  replace bo := bo.keeps k1 (by simp)
  replace be := be.keeps k1 (by simp)
  replace k0 := k0.then k1
  clear k1
  obtain ⟨e0, e1⟩ := be.one
  obtain ⟨o0, o1⟩ := bo.one
  go_wp2_with fail
  refine leaves_cons (f := 35) (args := #[.pointer (some ⟨w.heap.size + 1, 0, none⟩), .func (.func 39) #[] #[.pointer (some ⟨w.heap.size, 0, none⟩)]]) (by simp) (by simp [go_sem]) ?_
  refine (wcaught_tree _ _ 12 _ _ _ _ [] _ be bo (by omega)).mono ?_
  rintro e u' w'' ⟨rfl, rfl, rfl⟩
  refine ⟨.tuple #[.slice none 0 0, .int .i64 12], by simp only [results, Tryz.results17]; go_simp, ?_⟩
  refine ⟨_, rfl, .nil, .nil, ?_⟩
  exact Keeps.setCell' (.inl (by dsimp only; omega)) (Keeps.setCell' (.inl (by dsimp only; omega)) k0)

set_option maxRecDepth 100000 in
set_option maxHeartbeats 2000000 in
theorem toTree_yes (v : Value) (l : List Int) (w : World) (hv : RdI .i64 w v l) (hn : l.length ≤ 1000000) (ht : okW l = true) : Calls Tryz.prog 17 #[v] w (LsEnd w (tOf l) 0) := by
  have hmf : ∀ (fn : Fn) (first cap : Array Value) (w : World), (Instr.makeFunc fn first cap).run Tryz.prog w = .ok (.func fn first cap) w := fun _ _ _ _ => rfl
  have HO := Lib.hid (fun w' (k : Keeps w w' []) => (wtree_any v l w' (hv.keeps k) hn).mono fun e w'' h => (⟨h.2.1 ht, h.1⟩ : (∃ v, e = .returned (.tuple #[v, .int .i64 (vW l)]) ∧ RdI .i64 w'' v (tOf l) ∧ Fresh w'.heap.size v) ∧ Keeps w' w'' []))
  obtain ⟨A0, n, cp0, rfl, -, -⟩ := hv.form
  clear hv ht
  generalize vW l = V at *
  go_enter_defers Tryz.func17, Tryz.ntmps17
  go_wp2_with fail
  have k0 : Keeps w ((w.alloc (.cells #[.slice none 0 0] 22)).alloc (.cells #[.int .i64 0] 24)) [] := ((Keeps.refl w []).alloc _).alloc _
  have bo := (Blk.new w #[.slice none 0 0] 22).alloc (.cells #[.int .i64 0] 24)
  have be := Blk.new (w.alloc (.cells #[.slice none 0 0] 22)) #[.int .i64 0] 24
  simp only [World.size_alloc] at be
  refine (HO.out _ k0).mono ?_
  rintro e w1 ⟨⟨v1, rfl, r1, f1⟩, k1⟩
  replace bo := bo.keeps k1 (by simp)
  replace be := be.keeps k1 (by simp)
  replace k0 := k0.then k1
  clear k1
  simp only [World.size_alloc] at f1
  obtain ⟨a1, n1, c1, rfl, -, -⟩ := r1.form
  obtain ⟨e0, e1⟩ := be.one
  obtain ⟨o0, o1⟩ := bo.one
  have R1 := Lib.hid r1
  clear r1
  go_wp2_with fail
  refine leaves_cons (f := 35) (args := #[.pointer (some ⟨w.heap.size + 1, 0, none⟩), .func (.func 39) #[] #[.pointer (some ⟨w.heap.size, 0, none⟩)]]) (by simp) (by simp [go_sem]) ?_
  refine (wcaught_idle _ _ _).mono ?_
  rintro e u' w'' ⟨rfl, rfl, rfl⟩
  refine ⟨.tuple #[.slice a1 n1 c1, .int .i64 0], by simp only [results, Tryz.results17]; go_simp, ?_⟩
  refine ⟨_, rfl, R1.out.keepsS (S := [w.heap.size, w.heap.size + 1]) (by repeat (first | exact Keeps.refl _ _ | refine Keeps.setCell' (.inr (by simp)) ?_)) (fun ad m c he _ hm => ?_), f1.mono (by omega), by repeat (first | exact k0 | refine Keeps.setCell' (.inl (by dsimp only; omega)) ?_)⟩
  have := f1 ad m c he
  simp at hm
  omega

set_option maxRecDepth 100000 in
set_option maxHeartbeats 2000000 in
theorem implied_no (v : Value) (l : List Int) (w : World) (hv : RdI .i64 w v l) (hn : l.length ≤ 1000000) (ht : okW l = false) : Calls Tryz.prog 20 #[v] w (NumEnd w 0 12) := by
  have hmf : ∀ (fn : Fn) (first cap : Array Value) (w : World), (Instr.makeFunc fn first cap).run Tryz.prog w = .ok (.func fn first cap) w := fun _ _ _ _ => rfl
  have HO := Lib.hid (fun w' (k : Keeps w w' []) => (wtree_any v l w' (hv.keeps k) hn).mono fun e w'' h => (⟨h.2.2 ht, h.1⟩ : e = .panicked [raisedBy 12 false] ∧ Keeps w' w'' []))
  obtain ⟨A0, n, cp0, rfl, -, -⟩ := hv.form
  clear hv ht
  go_enter_defers Tryz.func20, Tryz.ntmps20
  go_wp2_with fail
  have k0 : Keeps w ((w.alloc (.cells #[.int .i64 0] 3)).alloc (.cells #[.int .i64 0] 24)) [] := ((Keeps.refl w []).alloc _).alloc _
  have bo := (Blk.new w #[.int .i64 0] 3).alloc (.cells #[.int .i64 0] 24)
  have be := Blk.new (w.alloc (.cells #[.int .i64 0] 3)) #[.int .i64 0] 24
  simp only [World.size_alloc] at be
  refine (HO.out _ k0).mono ?_
  rintro e w1 ⟨rfl, k1⟩
  replace bo := bo.keeps k1 (by simp)
  replace be := be.keeps k1 (by simp)
  replace k0 := k0.then k1
  clear k1
  obtain ⟨e0, e1⟩ := be.one
  obtain ⟨o0, o1⟩ := bo.one
  go_wp2_with fail
  refine leaves_cons (f := 35) (args := #[.pointer (some ⟨w.heap.size + 1, 0, none⟩), .func (.func 42) #[] #[.pointer (some ⟨w.heap.size, 0, none⟩)]]) (by simp) (by simp [go_sem]) ?_
  refine (wcaught_last _ _ 12 _ _ _ _ [] _ be bo (by omega)).mono ?_
  rintro e u' w'' ⟨rfl, rfl, rfl⟩
  refine ⟨.tuple #[.int .i64 0, .int .i64 12], by simp only [results, Tryz.results20]; go_simp, ?_⟩
  refine ⟨rfl, ?_⟩
  exact Keeps.setCell' (.inl (by dsimp only; omega)) (Keeps.setCell' (.inl (by dsimp only; omega)) k0)

set_option maxRecDepth 100000 in
set_option maxHeartbeats 2000000 in
theorem implied_yes (v : Value) (l : List Int) (w : World) (hv : RdI .i64 w v l) (hn : l.length ≤ 1000000) (ht : okW l = true) : Calls Tryz.prog 20 #[v] w (NumEnd w (vW l) 0) := by
  have hmf : ∀ (fn : Fn) (first cap : Array Value) (w : World), (Instr.makeFunc fn first cap).run Tryz.prog w = .ok (.func fn first cap) w := fun _ _ _ _ => rfl
  have HO := Lib.hid (fun w' (k : Keeps w w' []) => (wtree_any v l w' (hv.keeps k) hn).mono fun e w'' h => (⟨h.2.1 ht, h.1⟩ : (∃ v, e = .returned (.tuple #[v, .int .i64 (vW l)]) ∧ RdI .i64 w'' v (tOf l) ∧ Fresh w'.heap.size v) ∧ Keeps w' w'' []))
  obtain ⟨A0, n, cp0, rfl, -, -⟩ := hv.form
  clear hv ht
  generalize vW l = V at *
  go_enter_defers Tryz.func20, Tryz.ntmps20
  go_wp2_with fail
  have k0 : Keeps w ((w.alloc (.cells #[.int .i64 0] 3)).alloc (.cells #[.int .i64 0] 24)) [] := ((Keeps.refl w []).alloc _).alloc _
  have bo := (Blk.new w #[.int .i64 0] 3).alloc (.cells #[.int .i64 0] 24)
  have be := Blk.new (w.alloc (.cells #[.int .i64 0] 3)) #[.int .i64 0] 24
  simp only [World.size_alloc] at be
  refine (HO.out _ k0).mono ?_
  rintro e w1 ⟨⟨v1, rfl, r1, f1⟩, k1⟩
  replace bo := bo.keeps k1 (by simp)
  replace be := be.keeps k1 (by simp)
  replace k0 := k0.then k1
  clear k1
  simp only [World.size_alloc] at f1
  obtain ⟨a1, n1, c1, rfl, -, -⟩ := r1.form
  obtain ⟨e0, e1⟩ := be.one
  obtain ⟨o0, o1⟩ := bo.one
  have R1 := Lib.hid r1
  clear r1
  go_wp2_with fail
  refine leaves_cons (f := 35) (args := #[.pointer (some ⟨w.heap.size + 1, 0, none⟩), .func (.func 42) #[] #[.pointer (some ⟨w.heap.size, 0, none⟩)]]) (by simp) (by simp [go_sem]) ?_
  refine (wcaught_idle _ _ _).mono ?_
  rintro e u' w'' ⟨rfl, rfl, rfl⟩
  refine ⟨.tuple #[.int .i64 V, .int .i64 0], by simp only [results, Tryz.results20]; go_simp, ?_⟩
  refine ⟨rfl, by repeat (first | exact k0 | refine Keeps.setCell' (.inl (by dsimp only; omega)) ?_)⟩
end

end Go.Proofs.YtophgpnnjphnmaaGreat
