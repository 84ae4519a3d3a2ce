/-
  The law's small functions; works.
-/
import Derived.Test.YtedojgbjfenmaaaT5
import Derived.Test.YtedojgbjfenmaaaT8
import Derived.Test.YtedojgbjfenmaaaT9
import Derived.Test.YtedojgbjfenmaaaT11
import Derived.Test.YtedojgbjfenmaaaT13
import Derived.Test.YtedojgbjfenmaaaT6
namespace Go.Proofs.Ytedojgbjfenmaaa
set_option linter.unusedVariables false
set_option linter.unusedSimpArgs false
set_option linter.unusedSectionVars false
open Go.RowKit

set_option maxHeartbeats 1000000 in
theorem same_yes (v1 v2 : Value) (l : List Int) (w : World) (h1 : RdI .i64 w v1 l) (h2 : RdI .i64 w v2 l) (hn : l.length ≤ 1000000) :
    Calls Try.prog 14 #[v1, v2] w fun e w' => e = .returned (.bool true) ∧ ∃ m, w' = w.drewN m := by
  obtain ⟨A1, n, c1, rfl, hn1, -⟩ := h1.form
  obtain ⟨A2, n2, c2, rfl, hn2, -⟩ := h2.form
  obtain rfl : n2 = n := by omega
  have H1 := Lib.hid h1
  have H2 := Lib.hid h2
  have HN := Lib.hid hn1
  have hn' : n2 ≤ 1000000 := by omega
  clear h1 h2 hn1 hn2 hn
  go_enter Try.func14, Try.ntmps14
  go_wp2_with fail
  go_loopw [5] (fun i wr => ∃ k nd : Nat, k ≤ n2 ∧ i = .int .i64 k ∧ wr = w.drewN nd) (fun i _ => n2 - (intOf i).toNat)
  case atStart => exact ⟨0, 0, Nat.zero_le _, rfl, rfl⟩
  case round =>
    obtain ⟨k, nd, hk, rfl, rfl⟩ := hrel
    by_cases hlt : k < n2
    · obtain ⟨x, hx⟩ : ∃ x, l[k]? = some x := ⟨_, List.getElem?_eq_getElem (by have := HN.out; omega)⟩
      obtain ⟨b, o, rfl, hb, hc⟩ := H1.out.at hx
      obtain ⟨b2, o2, rfl, hb2, hc2⟩ := H2.out.at hx
      have hcap := H1.out.cap
      have hcap2 := H2.out.cap
      have hkn : (k : Int) < (n2 : Int) := by omega
      have hk0 : (0 : Int) ≤ (k : Int) := Int.natCast_nonneg _
      clear hx
      go_wp2_with fail
      go_quiet (fail)
      go_wp2_with fail
      go_roundw
      case rel => exact ⟨k + 1, nd + nq, by omega, by go_num, rfl⟩
      case measure => simp [intOf]; omega
    · have : k = n2 := by omega
      subst this
      go_wp2_with fail
      go_ret
      exact ⟨rfl, _, rfl⟩

theorem is_yes (n : Int) (w : World) : Calls Try.prog 23 #[.int .i64 n, .int .i64 0, .int .i64 n] w fun e w' => e = .returned (.bool true) ∧ w' = w := by
  go_enter Try.func23, Try.ntmps23
  go_wp2
  go_ret
  exact ⟨rfl, rfl⟩

theorem num_any (n : Int) (w : World) : Calls Try.prog 19 #[.int .i64 n] w fun e w' => e = .returned (.int .i64 n) ∧ w' = w := by
  go_enter Try.func19, Try.ntmps19
  go_wp2
  go_ret
  exact ⟨rfl, rfl⟩

/-- A block of numbers reads as their list. -/
theorem blk_nums {w : World} {b : Nat} {l : List Int} {k : IntKind} {T : TypeId} (h : Blk w b (l.map (Value.int k)).toArray T) : RdI k w (.slice (some ⟨b, 0, none⟩) l.length l.length) l :=
  ⟨_, _, _, rfl, rfl, (fun h => by cases h), fun h0 => ⟨Nat.le_refl _, b, 0, rfl, h.lt, fun i x hx => by rw [Nat.zero_add, h.cell]; simp [hx]⟩⟩
theorem blk_one {w : World} {b : Nat} {x : Int} {k : IntKind} {T : TypeId} (h : Blk w b #[.int k x] T) : RdI k w (.slice (some ⟨b, 0, none⟩) 1 1) [x] := blk_nums (l := [x]) h
theorem blk_two {w : World} {b : Nat} {x y : Int} {k : IntKind} {T : TypeId} (h : Blk w b #[.int k x, .int k y] T) : RdI k w (.slice (some ⟨b, 0, none⟩) 2 2) [x, y] := blk_nums (l := [x, y]) h
theorem blk_three {w : World} {b : Nat} {x y z : Int} {k : IntKind} {T : TypeId} (h : Blk w b #[.int k x, .int k y, .int k z] T) : RdI k w (.slice (some ⟨b, 0, none⟩) 3 3) [x, y, z] := blk_nums (l := [x, y, z]) h
theorem blk_four {w : World} {b : Nat} {x y z u : Int} {k : IntKind} {T : TypeId} (h : Blk w b #[.int k x, .int k y, .int k z, .int k u] T) : RdI k w (.slice (some ⟨b, 0, none⟩) 4 4) [x, y, z, u] := blk_nums (l := [x, y, z, u]) h
/-- Two slices in a block. -/
theorem blk_parts {w : World} {b : Nat} {v1 v2 : Value} {l1 l2 : List Int} {T : TypeId} (h : Blk w b #[v1, v2] T) (h1 : RdI .u8 w v1 l1) (h2 : RdI .u8 w v2 l2) : RdL .u8 w (.slice (some ⟨b, 0, none⟩) 2 2) [l1, l2] :=
  ⟨_, _, _, rfl, rfl, fun h0 => ⟨Nat.le_refl _, b, 0, rfl, h.lt, fun i l hl => by
    match i, hl with
    | 0, hl => cases hl; exact ⟨v1, h.cell 0, h1⟩
    | 1, hl => cases hl; exact ⟨v2, h.cell 1, h2⟩⟩⟩

theorem Blk.newAt {w : World} {cs : Array Value} {T : TypeId} {b : Nat} (h : w.heap.size = b) : Blk (w.alloc (.cells cs T)) b cs T := h ▸ Blk.new w cs T

/-! What the examples come to. -/
theorem hist_1 : (histL [1, 2, 1, 1])[1]? = some 3 ∧ (histL [1, 2, 1, 1])[2]? = some 1 ∧ (histL [1, 2, 1, 1]).length = 256 := ⟨by kernel_rfl, by kernel_rfl, by kernel_rfl⟩
theorem run_77 (v : Value) (w : World) (hv : RdI .u8 w v [7, 7]) : Calls Try.prog 17 #[v] w fun e w' => e = .returned (.tuple #[.int .u8 7, .bool true]) ∧ Keeps w w' [] := isrun_call v [7, 7] w hv (by decide)
theorem run_78 (v : Value) (w : World) (hv : RdI .u8 w v [7, 8]) : Calls Try.prog 17 #[v] w fun e w' => e = .returned (.tuple #[.int .u8 0, .bool false]) ∧ Keeps w w' [] := isrun_call v [7, 8] w hv (by decide)
theorem run_0 (v : Value) (w : World) (hv : RdI .u8 w v []) : Calls Try.prog 17 #[v] w fun e w' => e = .returned (.tuple #[.int .u8 0, .bool false]) ∧ Keeps w w' [] := isrun_call v [] w hv (by decide)
theorem total_201 (v : Value) (w : World) (hv : RdI .i64 w v [2, 0, 1]) : Calls Try.prog 21 #[v] w fun e w' => e = .returned (.tuple #[.int .i64 3, .int .i64 0]) ∧ Keeps w w' [] := total_call v [2, 0, 1] w hv (by decide)
theorem distinct_201 (v : Value) (w : World) (hv : RdI .i64 w v [2, 0, 1]) : Calls Try.prog 22 #[v] w fun e w' => e = .returned (.tuple #[.int .i64 2, .int .i64 0]) ∧ Keeps w w' [] := distinct_call v [2, 0, 1] w hv (by decide)
theorem most_133 (v : Value) (w : World) (hv : RdI .i64 w v [1, 3, 3]) : Calls Try.prog 26 #[v] w fun e w' => e = .returned (.tuple #[.int .i64 1, .int .i64 0]) ∧ Keeps w w' [] := most_call v [1, 3, 3] w hv (by decide)
theorem most_0 (v : Value) (w : World) (hv : RdI .i64 w v [0]) : Calls Try.prog 26 #[v] w fun e w' => e = .returned (.tuple #[.int .i64 0, .int .i64 22]) ∧ Keeps w w' [] := most_call v [0] w hv (by decide)
theorem check_m1 (v : Value) (w : World) (hv : RdI .i64 w v [-1]) : Calls Try.prog 20 #[v] w fun e w' => e = .returned (.int .i64 2) ∧ w' = w := check_any v [-1] w hv (by decide)
theorem add_125 (v1 v2 : Value) (w : World) (h1 : RdI .i64 w v1 [1, 2]) (h2 : RdI .i64 w v2 [5]) : Calls Try.prog 28 #[v1, v2] w fun e w' => ∃ v, e = .returned (.tuple #[v, .int .i64 0]) ∧ w'.ownsRow w.heap.size 3 1 v 2 ([6, 2].map (Value.int .i64)) ∧ Keeps w w' [] :=
  (add_call v1 v2 [1, 2] [5] w h1 h2 (by decide) (by decide)).mono fun e w' h => h.1 (by decide)
theorem log_1 : logI 1 = 0 ∧ logI 2 = 256 ∧ logI 3 = 384 ∧ logI 5 = 576 := ⟨by kernel_rfl, by kernel_rfl, by kernel_rfl, by kernel_rfl⟩
theorem log2_1 (w : World) : Calls Try.prog 30 #[.int .i64 1] w fun e w' => e = .returned (.tuple #[.int .i64 0, .int .i64 0]) ∧ w' = w := by
  have h := log2_yes 1 w (by decide) (by decide)
  rw [log_1.1] at h
  exact h
theorem log2_2 (w : World) : Calls Try.prog 30 #[.int .i64 2] w fun e w' => e = .returned (.tuple #[.int .i64 256, .int .i64 0]) ∧ w' = w := by
  have h := log2_yes 2 w (by decide) (by decide)
  rw [log_1.2.1] at h
  exact h
theorem log2_3 (w : World) : Calls Try.prog 30 #[.int .i64 3] w fun e w' => e = .returned (.tuple #[.int .i64 384, .int .i64 0]) ∧ w' = w := by
  have h := log2_yes 3 w (by decide) (by decide)
  rw [log_1.2.2.1] at h
  exact h
theorem log2_5 (w : World) : Calls Try.prog 30 #[.int .i64 5] w fun e w' => e = .returned (.tuple #[.int .i64 576, .int .i64 0]) ∧ w' = w := by
  have h := log2_yes 5 w (by decide) (by decide)
  rw [log_1.2.2.2] at h
  exact h
theorem cost_211 (v : Value) (w : World) (hv : RdI .i64 w v [2, 1, 1]) : Calls Try.prog 32 #[v] w fun e w' => e = .returned (.tuple #[.int .i64 1536, .int .i64 0]) ∧ Keeps w w' [] := by
  have h := cost_call v [2, 1, 1] w hv (by decide)
  have e1 : (if rightL [2, 1, 1] then costL [2, 1, 1] else 0) = 1536 := by kernel_rfl
  have e2 : (if rightL [2, 1, 1] then (0 : Int) else 2) = 0 := by kernel_rfl
  rw [e1, e2] at h
  exact h
theorem cost_09 (v : Value) (w : World) (hv : RdI .i64 w v [0, 9]) : Calls Try.prog 32 #[v] w fun e w' => e = .returned (.tuple #[.int .i64 0, .int .i64 0]) ∧ Keeps w w' [] := by
  have h := cost_call v [0, 9] w hv (by decide)
  have e1 : (if rightL [0, 9] then costL [0, 9] else 0) = 0 := by kernel_rfl
  have e2 : (if rightL [0, 9] then (0 : Int) else 2) = 0 := by kernel_rfl
  rw [e1, e2] at h
  exact h

set_option maxRecDepth 100000 in
set_option maxHeartbeats 1600000 in
theorem works_true (w : World) : Calls Try.prog 13 #[] w fun e w' => e = .returned (.bool true) ∧ Keeps w w' [] := by
  go_enter Try.func13, Try.ntmps13
  go_wp2_with fail
  refine (hist_call _ [[1, 2, 1], [1]] _ (blk_parts (Blk.newAt (by simp)) (blk_three (((Blk.newAt rfl).alloc _).alloc _)) (blk_one ((Blk.newAt (by simp)).alloc _))) (by decide) (by decide) (by decide)).mono ?_
  rintro e w1 ⟨v1, rfl, hc, kk⟩
  have kw := ((((Keeps.refl w []).alloc _).alloc _).alloc _).then kk
  clear kk
  obtain ⟨A1, n1, cp1, rfl, hn1, -⟩ := hc.form
  have hn1' : n1 = 256 := by rw [hn1]; exact hist_1.2.2
  subst hn1'
  clear hn1
  go_wp2_with fail
  refine (run_77 _ _ (blk_two (Blk.newAt rfl))).mono ?_
  rintro e w2 ⟨rfl, kk⟩
  replace kw := (kw.alloc _).then kk
  replace hc := (hc.keeps ((Keeps.refl w1 []).alloc _)).keeps kk
  clear kk
  go_wp2_with fail
  refine (run_78 _ _ (blk_two (Blk.newAt rfl))).mono ?_
  rintro e w3 ⟨rfl, kk⟩
  replace kw := (kw.alloc _).then kk
  replace hc := (hc.keeps ((Keeps.refl w2 []).alloc _)).keeps kk
  clear kk
  go_wp2_with fail
  refine (run_0 _ _ .nil).mono ?_
  rintro e w4 ⟨rfl, kk⟩
  replace kw := kw.then kk
  replace hc := hc.keeps kk
  obtain ⟨b, o, rfl, hb, hc1⟩ := hc.at hist_1.1
  obtain ⟨b2, o2, he, hb2, hc2⟩ := hc.at hist_1.2.1
  cases he
  have hcap := hc.cap
  clear kk hc
  go_wp2_with fail
  clear hc1 hc2 hb hb2 hcap
  refine (total_201 _ _ (blk_three (Blk.newAt rfl))).mono ?_
  rintro e w5 ⟨rfl, kk⟩
  replace kw := (kw.alloc _).then kk
  clear kk
  go_wp2_with fail
  refine (distinct_201 _ _ (blk_three (Blk.newAt rfl))).mono ?_
  rintro e w6 ⟨rfl, kk⟩
  replace kw := (kw.alloc _).then kk
  clear kk
  go_wp2_with fail
  refine (most_133 _ _ (blk_three (Blk.newAt rfl))).mono ?_
  rintro e w7 ⟨rfl, kk⟩
  replace kw := (kw.alloc _).then kk
  clear kk
  go_wp2_with fail
  refine (most_0 _ _ (blk_one (Blk.newAt rfl))).mono ?_
  rintro e w8 ⟨rfl, kk⟩
  replace kw := (kw.alloc _).then kk
  clear kk
  go_wp2_with fail
  refine (add_125 _ _ _ (blk_two ((Blk.newAt rfl).alloc _)) (blk_one (Blk.newAt (by simp)))).mono ?_
  rintro e w9 ⟨v9, rfl, own, kk⟩
  replace kw := ((kw.alloc _).alloc _).then kk
  clear kk
  obtain ⟨a9, c9, rfl⟩ := own_form own
  have hr9 : RdI .i64 w9 (.slice a9 2 c9) [6, 2] := own_reads own
  clear own
  go_wp2_with fail
  iterate 3 (refine (is_yes _ _).mono ?_; rintro e w' ⟨rfl, rfl⟩; go_wp2_with fail)
  refine (num_any _ _).mono ?_
  rintro e w10 ⟨rfl, rfl⟩
  go_wp2_with fail
  refine (check_m1 _ _ (blk_one (Blk.newAt rfl))).mono ?_
  rintro e w11 ⟨rfl, rfl⟩
  go_wp2_with fail
  refine (num_any _ _).mono ?_
  rintro e w12 ⟨rfl, rfl⟩
  go_wp2_with fail
  refine (same_yes _ _ [6, 2] _ ((hr9.keeps ((Keeps.refl _ []).alloc _)).keeps ((Keeps.refl _ []).alloc _)) (blk_two (Blk.newAt (by simp))) (by decide)).mono ?_
  rintro e w13 ⟨rfl, nd, hw13⟩
  have kw13 : Keeps w w13 [] := by rw [hw13]; exact ((kw.alloc _).alloc _).drewN nd
  clear hw13 kw hr9
  go_wp2_with fail
  refine (num_any _ _).mono ?_
  rintro e w14 ⟨rfl, rfl⟩
  obtain ⟨w15, rfl⟩ : ∃ w15, w15 = w14 := ⟨_, rfl⟩
  go_wp2_with fail
  go_loop [20] (fun i => ∃ k : Nat, k ≤ 4 ∧ i = .int .i64 k) (fun i => 4 - (intOf i).toNat)
  case atStart => exact ⟨0, by omega, rfl⟩
  case round =>
    obtain ⟨k, hk, rfl⟩ := hrel
    have hk4 : k = 0 ∨ k = 1 ∨ k = 2 ∨ k = 3 ∨ k = 4 := by omega
    rcases hk4 with rfl | rfl | rfl | rfl | rfl
    case inl =>
      go_wp2_with (first | (go_at_call 30; refine (log2_1 _).mono ?_; rintro e w' ⟨rfl, rfl⟩) | (go_at_call 23; refine (is_yes _ _).mono ?_; rintro e w' ⟨rfl, rfl⟩))
      go_round
      case rel => exact ⟨1, by omega, rfl⟩
      case measure => simp [intOf]
    case inr.inl =>
      go_wp2_with (first | (go_at_call 30; refine (log2_2 _).mono ?_; rintro e w' ⟨rfl, rfl⟩) | (go_at_call 23; refine (is_yes _ _).mono ?_; rintro e w' ⟨rfl, rfl⟩))
      go_round
      case rel => exact ⟨2, by omega, rfl⟩
      case measure => simp [intOf]
    case inr.inr.inl =>
      go_wp2_with (first | (go_at_call 30; refine (log2_3 _).mono ?_; rintro e w' ⟨rfl, rfl⟩) | (go_at_call 23; refine (is_yes _ _).mono ?_; rintro e w' ⟨rfl, rfl⟩))
      go_round
      case rel => exact ⟨3, by omega, rfl⟩
      case measure => simp [intOf]
    case inr.inr.inr.inl =>
      go_wp2_with (first | (go_at_call 30; refine (log2_5 _).mono ?_; rintro e w' ⟨rfl, rfl⟩) | (go_at_call 23; refine (is_yes _ _).mono ?_; rintro e w' ⟨rfl, rfl⟩))
      go_round
      case rel => exact ⟨4, by omega, rfl⟩
      case measure => simp [intOf]
    case inr.inr.inr.inr =>
      go_wp2_with fail
      refine (log2_no 0 _ (.inl (by decide))).mono ?_
      rintro e w' ⟨rfl, rfl⟩
      go_wp2_with fail
      refine (cost_211 _ _ (blk_three (Blk.newAt (by simp)))).mono ?_
      rintro e w16 ⟨rfl, kk⟩
      have kw16 := (((kw13.alloc _).alloc _).alloc _).then kk
      clear kk
      go_wp2_with fail
      refine (cost_09 _ _ (blk_two (Blk.newAt rfl))).mono ?_
      rintro e w17 ⟨rfl, kk⟩
      have kw17 := (kw16.alloc _).then kk
      clear kk
      go_wp2_with (first | (go_at_call 19; refine (num_any _ _).mono ?_; rintro e w' ⟨rfl, rfl⟩) | (go_at_call 23; refine (is_yes _ _).mono ?_; rintro e w' ⟨rfl, rfl⟩))
      go_ret
      exact ⟨rfl, kw17⟩

end Go.Proofs.Ytedojgbjfenmaaa
