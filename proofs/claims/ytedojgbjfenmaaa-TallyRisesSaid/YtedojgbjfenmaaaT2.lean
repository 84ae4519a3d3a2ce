/-
  Walks over package tally: validity, total, used.
-/
import Derived.Test.YtedojgbjfenmaaaRows
import Derived.Test.YtedojgbjfenmaaaSl
import Derived.Test.YtedojgbjfenmaaaT1
import Derived.Maps.AppendAt
namespace Go.Proofs.Ytedojgbjfenmaaa
set_option linter.unusedVariables false
set_option linter.unusedSimpArgs false
set_option linter.unusedSectionVars false
open Go.RowKit

@[go_sem] theorem field_look (a : Option Addr) (n cp : Nat) (w : World) : (Instr.field 63 (.agg #[.slice a n cp]) 0).run Try.prog w = .ok (.slice a n cp) w := by kernel_rfl

theorem right1_any (n : Int) (w : World) : Calls Try.prog 58 #[.int .i64 n] w fun e w' => e = .returned (.bool (!fineC n)) ∧ w' = w := by
  by_cases h1 : n < 0
  · go_enter Try.func58, Try.ntmps58
    go_wp2
    go_ret
    exact ⟨by simp [fineC]; omega, rfl⟩
  · have hd : decide (n < 0) = false := by simpa using h1
    go_enter Try.func58, Try.ntmps58
    go_wp2
    go_ret
    have h0 : (0 ≤ n) := by omega
    exact ⟨ret_bool (by rw [Bool.eq_iff_iff]; simp [fineC, h0]), rfl⟩

set_option maxHeartbeats 1000000 in
/-- The first number that is not fine, or -1. -/
theorem index_right (v : Value) (l : List Int) (w : World) (hv : RdI .i64 w v l) (hn : l.length ≤ 1000000) :
    Calls Try.prog 61 #[v, .func (.func 58) #[] #[]] w fun e w' => ∃ r : Int, e = .returned (.int .i64 r) ∧ (decide (0 ≤ r) = !l.all fineC) ∧ w' = w := by
  obtain ⟨A0, n, cp0, rfl, hnl, -⟩ := hv.form
  have HV := Lib.hid hv
  have HN := Lib.hid hnl
  have hn' : n ≤ 1000000 := by omega
  clear hv hnl hn
  go_enter Try.func61, Try.ntmps61
  go_wp2_with fail
  go_loop [8] (fun i => ∃ k : Nat, k ≤ n ∧ i = .int .i64 k ∧ Hid ((l.take k).all fineC = true)) (fun i => n - (intOf i).toNat)
  case atStart => exact ⟨0, Nat.zero_le _, rfl, by simp [Hid]⟩
  case round =>
    obtain ⟨k, hk, rfl, hall⟩ := hrel
    by_cases hlt : k < n
    · obtain ⟨x, hx⟩ : ∃ x, l[k]? = some x := ⟨_, List.getElem?_eq_getElem (by have := HN.out; omega)⟩
      obtain ⟨b, o, rfl, hb, hc⟩ := HV.out.at hx
      have hcap := HV.out.cap
      have HX := Lib.hid hx
      clear hx
      cases hf : fineC x with
      | true =>
        have G := fun W => (right1_any x W)
        rw [hf] at G
        have HF := Lib.hid hf
        have HG := Lib.hid G
        clear hf G
        go_wp2_with (go_at_call 58; refine (HG.out _).mono ?_; rintro e w' ⟨rfl, rfl⟩)
        go_round
        case rel => exact ⟨k + 1, by omega, by go_num, by show _ = _; rw [take_next HX.out, List.all_append, hall.out]; simp [HF.out]⟩
        case measure => simp [intOf]; omega
      | false =>
        have G := fun W => (right1_any x W)
        rw [hf] at G
        have HF := Lib.hid hf
        have HG := Lib.hid G
        clear hf G
        go_wp2_with (go_at_call 58; refine (HG.out _).mono ?_; rintro e w' ⟨rfl, rfl⟩)
        go_ret
        refine ⟨_, rfl, ?_, rfl⟩
        have : l.all fineC = false := by
          rw [List.all_eq_false]
          exact ⟨x, List.mem_of_getElem? HX.out, by rw [HF.out]; simp⟩
        rw [this]
        simp
    · have : k = n := by omega
      subst this
      go_wp2_with fail
      go_ret
      refine ⟨_, rfl, ?_, rfl⟩
      have h1 := hall.out
      rw [HN.out, List.take_length] at h1
      rw [h1]
      simp

set_option maxHeartbeats 400000 in
theorem contains_right (v : Value) (l : List Int) (w : World) (hv : RdI .i64 w v l) (hn : l.length ≤ 1000000) :
    Calls Try.prog 57 #[v, .func (.func 58) #[] #[]] w fun e w' => e = .returned (.bool (!l.all fineC)) ∧ w' = w := by
  have HG := Lib.hid (index_right v l w hv hn)
  clear hv
  go_enter Try.func57, Try.ntmps57
  go_wp2_with (go_at_call 61; refine HG.out.mono ?_; rintro e w' ⟨r, rfl, hr, rfl⟩; have HR := Lib.hid hr; clear hr)
  go_ret
  exact ⟨ret_bool HR.out, rfl⟩

set_option maxHeartbeats 400000 in
theorem right_any (v : Value) (l : List Int) (w : World) (hv : RdI .i64 w v l) (hn : l.length ≤ 1000000) :
    Calls Try.prog 38 #[v] w fun e w' => e = .returned (.bool (rightL l)) ∧ w' = w := by
  have HG := Lib.hid (contains_right v l w hv hn)
  obtain ⟨A0, n, cp0, rfl, hnl, -⟩ := hv.form
  have HN := Lib.hid hnl
  clear hv hnl
  by_cases h256 : n ≤ 256
  · have hd : decide ((n : Int) ≤ 256) = true := by simp; omega
    have hfin : Hid (rightL l = !(!l.all fineC)) := by
      show _ = _
      unfold rightL; rw [← HN.out]; simp [h256]
    go_enter Try.func38, Try.ntmps38
    go_wp2_with (go_at_call 57; refine HG.out.mono ?_; rintro e w' ⟨rfl, rfl⟩)
    go_ret
    exact ⟨ret_bool (by rw [hfin.out]; simp), rfl⟩
  · have hd : decide ((n : Int) ≤ 256) = false := by simp; omega
    have hfin : Hid (rightL l = false) := by
      show _ = _
      unfold rightL; rw [← HN.out]; simp [h256]
    go_enter Try.func38, Try.ntmps38
    go_wp2_with fail
    go_ret
    exact ⟨ret_bool hfin.out.symm, rfl⟩

theorem check_any (v : Value) (l : List Int) (w : World) (hv : RdI .i64 w v l) (hn : l.length ≤ 1000000) :
    Calls Try.prog 20 #[v] w fun e w' => e = .returned (.int .i64 (if rightL l then 0 else 2)) ∧ w' = w := by
  have HG := Lib.hid (right_any v l w hv hn)
  obtain ⟨A0, n, cp0, rfl, -⟩ := hv.form
  clear hv
  cases hr : rightL l with
  | true =>
    rw [hr] at HG
    clear hr
    go_enter Try.func20, Try.ntmps20
    go_wp2_with (go_at_call 38; refine HG.out.mono ?_; rintro e w' ⟨rfl, rfl⟩)
    go_ret
    exact ⟨rfl, rfl⟩
  | false =>
    rw [hr] at HG
    clear hr
    go_enter Try.func20, Try.ntmps20
    go_wp2_with (go_at_call 38; refine HG.out.mono ?_; rintro e w' ⟨rfl, rfl⟩)
    go_ret
    exact ⟨rfl, rfl⟩

set_option maxHeartbeats 1000000 in
theorem total_any (v : Value) (l : List Int) (w : World) (hv : RdI .i64 w v l) (hr : rightL l = true) :
    Calls Try.prog 41 #[v] w fun e w' => e = .returned (.int .i64 (sumL l)) ∧ w' = w := by
  have hle := (rightL_iff.1 hr).1
  obtain ⟨A0, n, cp0, rfl, hnl, -⟩ := hv.form
  have HV := Lib.hid hv
  have HN := Lib.hid hnl
  have HR := Lib.hid hr
  have hn' : n ≤ 256 := by omega
  clear hv hnl hr hle
  go_enter Try.func41, Try.ntmps41
  go_wp2_with fail
  go_loop [2, 7] (fun s i => ∃ k : Nat, k ≤ n ∧ i = .int .i64 k ∧ s = .int .i64 (sumL (l.take k))) (fun _ i => n - (intOf i).toNat)
  case atStart => exact ⟨0, Nat.zero_le _, rfl, by simp [sumL]⟩
  case round =>
    obtain ⟨k, hk, rfl, rfl⟩ := hrel
    by_cases hlt : k < n
    · obtain ⟨x, hx⟩ : ∃ x, l[k]? = some x := ⟨_, List.getElem?_eq_getElem (by have := HN.out; omega)⟩
      obtain ⟨b, o, rfl, hb, hc⟩ := HV.out.at hx
      have hcap := HV.out.cap
      obtain ⟨hx0, hx1⟩ := right_get HR.out hx
      obtain ⟨hs0, hs1⟩ := sumL_take_bd HR.out k
      have hst : Hid (sumL (l.take (k + 1)) = sumL (l.take k) + x) := by show _ = _; rw [take_next hx, sumL_snoc]
      clear hx
      generalize hs : sumL (l.take k) = s at *
      have HS := Lib.hid hs
      clear hs
      go_wp2_with fail
      go_round
      case rel => exact ⟨k + 1, by omega, by go_num, by rw [hst.out]⟩
      case measure => simp [intOf]; omega
    · have : k = n := by omega
      subst this
      go_wp2_with fail
      go_ret
      exact ⟨ret_int (by rw [HN.out, List.take_length]), rfl⟩

theorem usedL_take_len (l : List Int) (k : Nat) : (usedL (l.take k)).length ≤ k := by
  have := usedL_len (l.take k)
  simp at this
  omega
theorem Try.infoInt : (Try.prog.info? 3).map (fun i => (i.zero, i.size, i.bytes)) = some (some (.int .i64 0), 1, 8) := by kernel_rfl
def OwnEnd (w : World) (T : TypeId) (k : IntKind) (l : List Int) (e : Ending) (w' : World) : Prop := ∃ v, e = .returned v ∧ w'.ownsRow w.heap.size T 1 v l.length (l.map (Value.int k)) ∧ Keeps w w' []

set_option maxHeartbeats 1000000 in
theorem used_any (v : Value) (l : List Int) (w : World) (hv : RdI .i64 w v l) (hn : l.length ≤ 1000000) :
    Calls Try.prog 43 #[v] w (OwnEnd w 3 .i64 (usedL l)) := by
  obtain ⟨A0, n, cp0, rfl, hnl, -⟩ := hv.form
  obtain ⟨i0, hi, hz0, hz1, hz2⟩ := info_parts Try.infoInt
  have HV := Lib.hid hv
  have HN := Lib.hid hnl
  have hn' : n ≤ 1000000 := by omega
  clear hv hnl hn
  go_enter Try.func43, Try.ntmps43
  go_wp2_with fail
  go_loopw [2, 7] (fun s i wr => ∃ k : Nat, k ≤ n ∧ i = .int .i64 k ∧ wr.ownsRow w.heap.size 3 1 s (usedL (l.take k)).length ((usedL (l.take k)).map (Value.int .i64)) ∧ Keeps w wr []) (fun _ i _ => n - (intOf i).toNat)
  case atStart => exact ⟨0, Nat.zero_le _, rfl, World.ownsRow_nil _ _ _ _, Keeps.refl _ _⟩
  case round =>
    obtain ⟨k, hk, rfl, hown, kk⟩ := hrel
    by_cases hlt : k < n
    · obtain ⟨x, hx⟩ : ∃ x, l[k]? = some x := ⟨_, List.getElem?_eq_getElem (by have := HN.out; omega)⟩
      obtain ⟨b, o, rfl, hb, hc⟩ := (HV.out.keeps kk).at hx
      have hcap := HV.out.cap
      have hkl : (l.take k).length = k := by have := HN.out; simp; omega
      have hst := Lib.hid (usedL_snoc (l.take k) x)
      have hst2 := Lib.hid (take_next hx)
      have hl1 := usedL_take_len l k
      have HKL := Lib.hid hkl
      clear hx hkl
      generalize usedL (l.take k) = U at *
      by_cases h0 : 0 < x
      · have hst3 : Hid (usedL (l.take (k + 1)) = U ++ [(k : Int)]) := by show _ = _; rw [hst2.out, hst.out, if_pos h0, HKL.out]
        go_wp2_with (first | (at_builtin; refine (wpList_append_own _ rfl _ _ 26 rfl w.heap.size 3 i0 (.int .i64 0) 1 8 Try.underlying26 hi hz0 hz1 hz2 rfl (by decide) u2 U.length _ rfl (hown.alloc _) ⟨wr.heap.size, 0, none⟩ 1 1 [.int .i64 (k : Int)] rfl rfl (cell_one_new _ _ _) (by simp [Value.oneCell']) (by unfold maxLen; omega) (by omega) (by have := kk.size; simp; omega) ?_); intro v5 w5 hown5 hg5 _))
        go_roundw
        case rel =>
          refine ⟨k + 1, by omega, by go_num, by rw [hst3.out]; simpa using hown5, ?_⟩
          refine Keeps.trans (kk.alloc _) (Keeps.of_grown (S := u2.ownBlock.toList) hg5 (fun j hj => by simpa using hj)) (fun j hj hlt2 => ?_)
          have hj' : u2.ownBlock = some j := by simpa using hj
          have := (hown.lt j hj').1
          omega
        case measure => simp [intOf]; omega
      · have hst3 : Hid (usedL (l.take (k + 1)) = U) := by show _ = _; rw [hst2.out, hst.out, if_neg h0, List.append_nil]
        have hd : decide (0 < x) = false := by simpa using h0
        go_wp2_with fail
        go_roundw
        case rel => exact ⟨k + 1, by omega, by go_num, by rw [hst3.out]; exact hown, kk⟩
        case measure => simp [intOf]; omega
    · have : k = n := by omega
      subst this
      go_wp2_with fail
      go_ret
      have h1 := hown
      rw [HN.out, List.take_length] at h1
      exact ⟨_, rfl, h1, kk⟩

end Go.Proofs.Ytedojgbjfenmaaa
