/-
  Walks over the references of package limit: validity, used symbols, an element; the law's small functions.
-/
import Derived.Test.YthjbngnihcmedaaJY
namespace Go.Proofs.Ythjbngnihcmedaa
set_option linter.unusedVariables false
set_option linter.unusedSimpArgs false
set_option linter.unusedSectionVars false
open Go.RowKit

set_option maxHeartbeats 1000000 in
theorem r_right (v : Value) (l : List Int) (w : World) (hv : RdI .i64 w v l) (hn : l.length ≤ 1000000) :
    Calls Try.prog 11 #[v] w fun e w' => e = .returned (.bool (rightL l)) ∧ w' = w := by
  obtain ⟨A0, n, cp0, rfl, hnl, -⟩ := hv.form
  have HV := Lib.hid hv
  have HN := Lib.hid hnl
  have hn' : n ≤ 1000000 := by omega
  clear hv hnl hn
  by_cases h256 : 256 < n
  · have hfin : Hid (rightL l = false) := by
      show _ = _
      unfold rightL; rw [← HN.out]; simp; omega
    have h1 : (256 : Int) < (n : Int) := by omega
    go_enter Try.func11, Try.ntmps11
    go_wp2_with fail
    go_ret
    exact ⟨ret_bool hfin.out.symm, rfl⟩
  · have h1 : decide ((256 : Int) < (n : Int)) = false := by simp; omega
    go_enter Try.func11, Try.ntmps11
    go_wp2_with fail
    go_loop [3] (fun i => ∃ k : Nat, k ≤ n ∧ i = .int .i64 k ∧ Hid ((l.take k).all fineC = true)) (fun i => n - (intOf i).toNat)
    case atStart => exact ⟨0, Nat.zero_le _, rfl, by simp [Hid]⟩
    case round =>
      obtain ⟨k, hk, rfl, hall⟩ := hrel
      by_cases hlt : k < n
      · obtain ⟨x, hx⟩ : ∃ x, l[k]? = some x := ⟨_, List.getElem?_eq_getElem (by have := HN.out; omega)⟩
        obtain ⟨b, o, rfl, hb, hc⟩ := HV.out.at hx
        have hcap := HV.out.cap
        have HX := Lib.hid hx
        clear hx
        have hkn : (k : Int) < (n : Int) := by omega
        have bad : fineC x = false → rightL l = false := fun h => by
          unfold rightL
          have : l.all fineC = false := by
            rw [List.all_eq_false]
            exact ⟨x, List.mem_of_getElem? HX.out, by rw [h]; simp⟩
          rw [this, Bool.and_false]
        have HBAD := Lib.hid bad
        clear bad
        by_cases hx0 : x < 0
        · have hfin := Lib.hid (HBAD.out (by simp [fineC]; omega))
          go_wp2_with fail
          go_ret
          exact ⟨ret_bool hfin.out.symm, rfl⟩
        · have hx0' : decide (x < 0) = false := by simpa using hx0
          by_cases hx1 : 2147483648 < x
          · have hfin := Lib.hid (HBAD.out (by simp [fineC]; omega))
            go_wp2_with fail
            go_ret
            exact ⟨ret_bool hfin.out.symm, rfl⟩
          · have hx1' : decide (2147483648 < x) = false := by simpa using hx1
            have hf : Hid (fineC x = true) := by show _ = _; rw [fineC_iff]; omega
            go_wp2_with fail
            go_round
            case rel => exact ⟨k + 1, by omega, by go_num, by show _ = _; rw [take_next HX.out, List.all_append, hall.out]; simp [hf.out]⟩
            case measure => simp [intOf]; omega
      · have : k = n := by omega
        subst this
        go_wp2_with fail
        go_ret
        have h2 := hall.out
        rw [HN.out, List.take_length] at h2
        have h3 : l.length ≤ 256 := by have := HN.out; omega
        exact ⟨ret_bool (by simp [rightL, h2, h3]), rfl⟩

set_option maxHeartbeats 1000000 in
theorem r_used (v : Value) (l : List Int) (w : World) (hv : RdI .i64 w v l) (hn : l.length ≤ 1000000) :
    Calls Try.prog 12 #[v] w fun e w' => e = .returned (.int .i64 (usedL l).length) ∧ w' = w := by
  obtain ⟨A0, n, cp0, rfl, hnl, -⟩ := hv.form
  have HV := Lib.hid hv
  have HN := Lib.hid hnl
  have hn' : n ≤ 1000000 := by omega
  clear hv hnl hn
  go_enter Try.func12, Try.ntmps12
  go_wp2_with fail
  go_loop [3, 4] (fun s i => ∃ k : Nat, k ≤ n ∧ i = .int .i64 k ∧ s = .int .i64 (usedL (l.take k)).length) (fun _ i => n - (intOf i).toNat)
  case atStart => exact ⟨0, Nat.zero_le _, rfl, by simp [usedL, usedF]⟩
  case round =>
    obtain ⟨k, hk, rfl, rfl⟩ := hrel
    by_cases hlt : k < n
    · obtain ⟨x, hx⟩ : ∃ x, l[k]? = some x := ⟨_, List.getElem?_eq_getElem (by have := HN.out; omega)⟩
      obtain ⟨b, o, rfl, hb, hc⟩ := HV.out.at hx
      have hcap := HV.out.cap
      have hl1 := usedL_take_len l k
      have hst : Hid ((usedL (l.take (k + 1))).length = (usedL (l.take k)).length + if 0 < x then 1 else 0) := by
        show _ = _; rw [take_next hx, usedL_snoc, List.length_append]; split <;> rfl
      have hkn : (k : Int) < (n : Int) := by omega
      clear hx
      generalize (usedL (l.take k)).length = s at *
      by_cases h0 : 0 < x
      · go_wp2_with fail
        go_round
        case rel => exact ⟨k + 1, by omega, by go_num, by rw [hst.out, if_pos h0]; go_num⟩
        case measure => simp [intOf]; omega
      · have hd : decide (0 < x) = false := by simpa using h0
        go_wp2_with fail
        go_round
        case rel => exact ⟨k + 1, by omega, by go_num, by rw [hst.out, if_neg h0]; rfl⟩
        case measure => simp [intOf]; omega
    · have : k = n := by omega
      subst this
      go_wp2_with fail
      go_ret
      exact ⟨ret_int (by rw [HN.out, List.take_length]), rfl⟩

theorem finM_iff {m x : Int} : finM m x = true ↔ 0 ≤ x ∧ x ≤ m := by simp [finM]
set_option maxHeartbeats 1000000 in
theorem r_right13 (v : Value) (l : List Int) (w : World) (hv : RdI .i64 w v l) (hn : l.length ≤ 1000000) :
    Calls Try.prog 41 #[v] w fun e w' => e = .returned (.bool (withinL 60 l)) ∧ w' = w := by
  obtain ⟨A0, n, cp0, rfl, hnl, -⟩ := hv.form
  have HV := Lib.hid hv
  have HN := Lib.hid hnl
  have hn' : n ≤ 1000000 := by omega
  clear hv hnl hn
  by_cases h256 : 256 < n
  · have hfin : Hid (withinL 60 l = false) := by
      show _ = _
      unfold withinL; rw [← HN.out]; simp; omega
    have h1 : (256 : Int) < (n : Int) := by omega
    go_enter Try.func41, Try.ntmps41
    go_wp2_with fail
    go_ret
    exact ⟨ret_bool hfin.out.symm, rfl⟩
  · have h1 : decide ((256 : Int) < (n : Int)) = false := by simp; omega
    go_enter Try.func41, Try.ntmps41
    go_wp2_with fail
    go_loop [3] (fun i => ∃ k : Nat, k ≤ n ∧ i = .int .i64 k ∧ Hid ((l.take k).all (finM 60) = true)) (fun i => n - (intOf i).toNat)
    case atStart => exact ⟨0, Nat.zero_le _, rfl, by simp [Hid]⟩
    case round =>
      obtain ⟨k, hk, rfl, hall⟩ := hrel
      by_cases hlt : k < n
      · obtain ⟨x, hx⟩ : ∃ x, l[k]? = some x := ⟨_, List.getElem?_eq_getElem (by have := HN.out; omega)⟩
        obtain ⟨b, o, rfl, hb, hc⟩ := HV.out.at hx
        have hcap := HV.out.cap
        have HX := Lib.hid hx
        clear hx
        have hkn : (k : Int) < (n : Int) := by omega
        have bad : finM 60 x = false → withinL 60 l = false := fun h => by
          unfold withinL
          have : l.all (finM 60) = false := by
            rw [List.all_eq_false]
            exact ⟨x, List.mem_of_getElem? HX.out, by rw [h]; simp⟩
          rw [this, Bool.and_false]
        have HBAD := Lib.hid bad
        clear bad
        by_cases hx0 : x < 0
        · have hfin := Lib.hid (HBAD.out (by simp [finM]; omega))
          go_wp2_with fail
          go_ret
          exact ⟨ret_bool hfin.out.symm, rfl⟩
        · have hx0' : decide (x < 0) = false := by simpa using hx0
          by_cases hx1 : 60 < x
          · have hfin := Lib.hid (HBAD.out (by simp [finM]; omega))
            go_wp2_with fail
            go_ret
            exact ⟨ret_bool hfin.out.symm, rfl⟩
          · have hx1' : decide (60 < x) = false := by simpa using hx1
            have hf : Hid (finM 60 x = true) := by show _ = _; rw [finM_iff]; omega
            go_wp2_with fail
            go_round
            case rel => exact ⟨k + 1, by omega, by go_num, by show _ = _; rw [take_next HX.out, List.all_append, hall.out]; simp [hf.out]⟩
            case measure => simp [intOf]; omega
      · have : k = n := by omega
        subst this
        go_wp2_with fail
        go_ret
        have h2 := hall.out
        rw [HN.out, List.take_length] at h2
        have h3 : l.length ≤ 256 := by have := HN.out; omega
        exact ⟨ret_bool (by simp [withinL, h2, h3]), rfl⟩

set_option maxHeartbeats 400000 in
theorem r_at13 (v : Value) (l : List Int) (k : Nat) (w : World) (hv : RdI .i64 w v l) (hn : l.length ≤ 1000000) :
    Calls Try.prog 42 #[v, .int .i64 k] w fun e w' => e = .returned (.int .i64 (atL l k)) ∧ w' = w := by
  obtain ⟨A0, n, cp0, rfl, hnl, -⟩ := hv.form
  have hk0 : (0 : Int) ≤ (k : Int) := Int.natCast_nonneg _
  by_cases hlt : k < n
  · obtain ⟨x, hx⟩ : ∃ x, l[k]? = some x := ⟨_, List.getElem?_eq_getElem (by omega)⟩
    obtain ⟨b, o, rfl, hb, hc⟩ := hv.at hx
    have hcap := hv.cap
    have hfin : Hid (atL l k = x) := by show _ = _; simp [atL, hx]
    have h1 : (k : Int) < (n : Int) := by omega
    have h2 : decide (n ≤ k) = false := by simp; omega
    have h3 : decide ((n : Int) ≤ (k : Int)) = false := by simp; omega
    clear hv hx hnl hn
    go_enter Try.func42, Try.ntmps42
    go_wp2_with fail
    go_ret
    exact ⟨ret_int hfin.out.symm, rfl⟩
  · have hfin : Hid (atL l k = 0) := by show _ = _; simp [atL, List.getElem?_eq_none (show l.length ≤ k by omega)]
    have h1 : (n : Int) ≤ (k : Int) := by omega
    have h2 : decide (n ≤ k) = true := by simp; omega
    clear hv hnl hn
    go_enter Try.func42, Try.ntmps42
    go_wp2_with fail
    go_ret
    exact ⟨ret_int hfin.out.symm, rfl⟩

set_option maxHeartbeats 1000000 in
theorem same_yes (v1 v2 : Value) (l : List Int) (w : World) (h1 : RdI .i64 w v1 l) (h2 : RdI .i64 w v2 l) (hn : l.length ≤ 1000000) :
    Calls Try.prog 17 #[v1, v2] w fun e w' => e = .returned (.bool true) ∧ ∃ m, w' = w.drewN m := by
  obtain ⟨A1, n, c1, rfl, hn1, -⟩ := h1.form
  obtain ⟨A2, n2, c2, rfl, hn2, -⟩ := h2.form
  obtain rfl : n2 = n := by omega
  have H1 := Lib.hid h1
  have H2 := Lib.hid h2
  have HN := Lib.hid hn1
  have hn' : n2 ≤ 1000000 := by omega
  clear h1 h2 hn1 hn2 hn
  go_enter Try.func17, Try.ntmps17
  go_wp2_with fail
  go_loopw [5] (fun i wr => ∃ k nd : Nat, k ≤ n2 ∧ i = .int .i64 k ∧ wr = w.drewN nd) (fun i _ => n2 - (intOf i).toNat)
  case atStart => exact ⟨0, 0, Nat.zero_le _, rfl, rfl⟩
  case round =>
    obtain ⟨k, nd, hk, rfl, rfl⟩ := hrel
    by_cases hlt : k < n2
    · obtain ⟨x, hx⟩ : ∃ x, l[k]? = some x := ⟨_, List.getElem?_eq_getElem (by have := HN.out; omega)⟩
      obtain ⟨b, o, rfl, hb, hc⟩ := H1.out.at hx
      obtain ⟨b2, o2, rfl, hb2, hc2⟩ := H2.out.at hx
      have hcap := H1.out.cap
      have hcap2 := H2.out.cap
      have hkn : (k : Int) < (n2 : Int) := by omega
      have hk0 : (0 : Int) ≤ (k : Int) := Int.natCast_nonneg _
      clear hx
      go_wp2_with fail
      go_quiet (fail)
      go_wp2_with fail
      go_roundw
      case rel => exact ⟨k + 1, nd + nq, by omega, by go_num, rfl⟩
      case measure => simp [intOf]; omega
    · have : k = n2 := by omega
      subst this
      go_wp2_with fail
      go_ret
      exact ⟨rfl, _, rfl⟩

theorem num_any (n : Int) (w : World) : Calls Try.prog 16 #[.int .i64 n] w fun e w' => e = .returned (.int .i64 n) ∧ w' = w := by
  go_enter Try.func16, Try.ntmps16
  go_wp2
  go_ret
  exact ⟨rfl, rfl⟩

/-- A block of numbers reads as their list. -/
theorem blk_nums {w : World} {b : Nat} {l : List Int} {k : IntKind} {T : TypeId} (h : Blk w b (l.map (Value.int k)).toArray T) : RdI k w (.slice (some ⟨b, 0, none⟩) l.length l.length) l :=
  ⟨_, _, _, rfl, rfl, (fun h => by cases h), fun h0 => ⟨Nat.le_refl _, b, 0, rfl, h.lt, fun i x hx => by rw [Nat.zero_add, h.cell]; simp [hx]⟩⟩
theorem blk_two {w : World} {b : Nat} {x y : Int} {k : IntKind} {T : TypeId} (h : Blk w b #[.int k x, .int k y] T) : RdI k w (.slice (some ⟨b, 0, none⟩) 2 2) [x, y] := blk_nums (l := [x, y]) h
theorem blk_three {w : World} {b : Nat} {x y z : Int} {k : IntKind} {T : TypeId} (h : Blk w b #[.int k x, .int k y, .int k z] T) : RdI k w (.slice (some ⟨b, 0, none⟩) 3 3) [x, y, z] := blk_nums (l := [x, y, z]) h
theorem blk_four {w : World} {b : Nat} {x y z u : Int} {k : IntKind} {T : TypeId} (h : Blk w b #[.int k x, .int k y, .int k z, .int k u] T) : RdI k w (.slice (some ⟨b, 0, none⟩) 4 4) [x, y, z, u] := blk_nums (l := [x, y, z, u]) h
/-- Two slices in a block. -/
theorem Blk.newAt {w : World} {cs : Array Value} {T : TypeId} {b : Nat} (h : w.heap.size = b) : Blk (w.alloc (.cells cs T)) b cs T := h ▸ Blk.new w cs T

end Go.Proofs.Ythjbngnihcmedaa
