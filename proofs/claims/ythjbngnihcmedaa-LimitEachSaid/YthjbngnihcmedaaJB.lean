/-
  Walks over package limit: validity, used symbols, an element, must.
-/
import Derived.Test.YthjbngnihcmedaaRows
import Derived.Test.YthjbngnihcmedaaSl
import Derived.Test.YthjbngnihcmedaaT1
import Derived.Test.YthjbngnihcmedaaSo9
import Derived.Maps.AppendAt
namespace Go.Proofs.Ythjbngnihcmedaa
set_option linter.unusedVariables false
set_option linter.unusedSimpArgs false
set_option linter.unusedSectionVars false
open Go.RowKit

/-- Is a number between 0 and m? -/
def finM (m n : Int) : Bool := decide (0 ≤ n) && decide (n ≤ m)
def withinL (m : Int) (l : List Int) : Bool := decide (l.length ≤ 256) && l.all (finM m)
theorem withinL_right (l : List Int) : withinL 2147483648 l = rightL l := rfl
theorem withinL_iff {m : Int} {l : List Int} : withinL m l = true ↔ l.length ≤ 256 ∧ ∀ x ∈ l, 0 ≤ x ∧ x ≤ m := by simp [withinL, finM]

theorem within1_any (pm : Nat) (m n : Int) (w : World) (hp : Blk w pm #[.int .i64 m] 3) : Calls Try.prog 63 #[.int .i64 n, .pointer (some ⟨pm, 0, none⟩)] w fun e w' => e = .returned (.bool (!finM m n)) ∧ w = w' := by
  obtain ⟨c0, -⟩ := hp.one
  by_cases h1 : n < 0
  · go_enter Try.func63, Try.ntmps63
    go_wp2
    go_ret
    exact ⟨by simp [finM]; omega, rfl⟩
  · have hd : decide (n < 0) = false := by simpa using h1
    go_enter Try.func63, Try.ntmps63
    go_wp2
    go_ret
    have h0 : (0 ≤ n) := by omega
    exact ⟨ret_bool (by rw [Bool.eq_iff_iff]; simp [finM, h0]), rfl⟩

set_option maxHeartbeats 1000000 in
/-- The first number that is not fine, or -1. -/
theorem index_within (pm : Nat) (m : Int) (v : Value) (l : List Int) (w : World) (hp : Blk w pm #[.int .i64 m] 3) (hv : RdI .i64 w v l) (hn : l.length ≤ 1000000) :
    Calls Try.prog 68 #[v, .func (.func 63) #[] #[.pointer (some ⟨pm, 0, none⟩)]] w fun e w' => ∃ r : Int, e = .returned (.int .i64 r) ∧ (decide (0 ≤ r) = !l.all (finM m)) ∧ w = w' := by
  obtain ⟨A0, n, cp0, rfl, hnl, -⟩ := hv.form
  have HV := Lib.hid hv
  have HN := Lib.hid hnl
  have hn' : n ≤ 1000000 := by omega
  clear hv hnl hn
  go_enter Try.func68, Try.ntmps68
  go_wp2_with fail
  go_loop [8] (fun i => ∃ k : Nat, k ≤ n ∧ i = .int .i64 k ∧ Hid ((l.take k).all (finM m) = true)) (fun i => n - (intOf i).toNat)
  case atStart => exact ⟨0, Nat.zero_le _, rfl, by simp [Hid]⟩
  case round =>
    obtain ⟨k, hk, rfl, hall⟩ := hrel
    by_cases hlt : k < n
    · obtain ⟨x, hx⟩ : ∃ x, l[k]? = some x := ⟨_, List.getElem?_eq_getElem (by have := HN.out; omega)⟩
      obtain ⟨b, o, rfl, hb, hc⟩ := HV.out.at hx
      have hcap := HV.out.cap
      have HX := Lib.hid hx
      clear hx
      cases hf : finM m x with
      | true =>
        have G := (within1_any pm m x w hp)
        rw [hf] at G
        have HF := Lib.hid hf
        have HG := Lib.hid G
        clear hf G
        go_wp2_with (go_at_call 63; refine HG.out.mono ?_; rintro e w' ⟨rfl, rfl⟩)
        go_round
        case rel => exact ⟨k + 1, by omega, by go_num, by show _ = _; rw [take_next HX.out, List.all_append, hall.out]; simp [HF.out]⟩
        case measure => simp [intOf]; omega
      | false =>
        have G := (within1_any pm m x w hp)
        rw [hf] at G
        have HF := Lib.hid hf
        have HG := Lib.hid G
        clear hf G
        go_wp2_with (go_at_call 63; refine HG.out.mono ?_; rintro e w' ⟨rfl, rfl⟩)
        go_ret
        refine ⟨_, rfl, ?_, rfl⟩
        have : l.all (finM m) = false := by
          rw [List.all_eq_false]
          exact ⟨x, List.mem_of_getElem? HX.out, by rw [HF.out]; simp⟩
        rw [this]
        simp
    · have : k = n := by omega
      subst this
      go_wp2_with fail
      go_ret
      refine ⟨_, rfl, ?_, rfl⟩
      have h1 := hall.out
      rw [HN.out, List.take_length] at h1
      rw [h1]
      simp

set_option maxHeartbeats 400000 in
theorem contains_within (pm : Nat) (m : Int) (v : Value) (l : List Int) (w : World) (hp : Blk w pm #[.int .i64 m] 3) (hv : RdI .i64 w v l) (hn : l.length ≤ 1000000) :
    Calls Try.prog 62 #[v, .func (.func 63) #[] #[.pointer (some ⟨pm, 0, none⟩)]] w fun e w' => e = .returned (.bool (!l.all (finM m))) ∧ w = w' := by
  have HG := Lib.hid (index_within pm m v l w hp hv hn)
  clear hv
  go_enter Try.func62, Try.ntmps62
  go_wp2_with (go_at_call 68; refine HG.out.mono ?_; rintro e w' ⟨r, rfl, hr, rfl⟩; have HR := Lib.hid hr; clear hr)
  go_ret
  exact ⟨ret_bool HR.out, rfl⟩


set_option maxHeartbeats 400000 in
theorem within_any (m : Int) (v : Value) (l : List Int) (w : World) (hv : RdI .i64 w v l) (hn : l.length ≤ 1000000) :
    Calls Try.prog 50 #[v, .int .i64 m] w fun e w' => e = .returned (.bool (withinL m l)) ∧ Keeps w w' [] := by
  have hmf : ∀ (fn : Fn) (first cap : Array Value) (w : World), (Instr.makeFunc fn first cap).run Try.prog w = .ok (.func fn first cap) w := fun _ _ _ _ => rfl
  have k0 : Keeps w (w.alloc (.cells #[.int .i64 m] 3)) [] := (Keeps.refl w []).alloc _
  have HG := Lib.hid (contains_within w.heap.size m v l _ (Blk.new w #[.int .i64 m] 3) (hv.keeps k0) hn)
  obtain ⟨A0, n, cp0, rfl, hnl, -⟩ := hv.form
  have HN := Lib.hid hnl
  clear hv hnl
  by_cases h256 : n ≤ 256
  · have hd : decide ((n : Int) ≤ 256) = true := by simp; omega
    have hfin : Hid (withinL m l = !(!l.all (finM m))) := by
      show _ = _
      unfold withinL; rw [← HN.out]; simp [h256]
    go_enter Try.func50, Try.ntmps50
    go_wp2_with (go_at_call 62; refine HG.out.mono ?_; rintro e w' ⟨rfl, rfl⟩)
    go_ret
    exact ⟨ret_bool (by rw [hfin.out]; simp), k0⟩
  · have hd : decide ((n : Int) ≤ 256) = false := by simp; omega
    have hfin : Hid (withinL m l = false) := by
      show _ = _
      unfold withinL; rw [← HN.out]; simp [h256]
    go_enter Try.func50, Try.ntmps50
    go_wp2_with fail
    go_ret
    exact ⟨ret_bool hfin.out.symm, k0⟩

theorem usedL_take_len (l : List Int) (k : Nat) : (usedL (l.take k)).length ≤ k := by
  have := usedL_len (l.take k)
  simp at this
  omega
theorem Try.infoInt : (Try.prog.info? 3).map (fun i => (i.zero, i.size, i.bytes)) = some (some (.int .i64 0), 1, 8) := by kernel_rfl
def OwnEnd (w : World) (T : TypeId) (k : IntKind) (l : List Int) (e : Ending) (w' : World) : Prop := ∃ v, e = .returned v ∧ w'.ownsRow w.heap.size T 1 v l.length (l.map (Value.int k)) ∧ Keeps w w' []

set_option maxHeartbeats 1000000 in
theorem used_any (v : Value) (l : List Int) (w : World) (hv : RdI .i64 w v l) (hn : l.length ≤ 1000000) :
    Calls Try.prog 51 #[v] w (OwnEnd w 3 .i64 (usedL l)) := by
  obtain ⟨A0, n, cp0, rfl, hnl, -⟩ := hv.form
  obtain ⟨i0, hi, hz0, hz1, hz2⟩ := info_parts Try.infoInt
  have HV := Lib.hid hv
  have HN := Lib.hid hnl
  have hn' : n ≤ 1000000 := by omega
  clear hv hnl hn
  go_enter Try.func51, Try.ntmps51
  go_wp2_with fail
  go_loopw [2, 7] (fun s i wr => ∃ k : Nat, k ≤ n ∧ i = .int .i64 k ∧ wr.ownsRow w.heap.size 3 1 s (usedL (l.take k)).length ((usedL (l.take k)).map (Value.int .i64)) ∧ Keeps w wr []) (fun _ i _ => n - (intOf i).toNat)
  case atStart => exact ⟨0, Nat.zero_le _, rfl, World.ownsRow_nil _ _ _ _, Keeps.refl _ _⟩
  case round =>
    obtain ⟨k, hk, rfl, hown, kk⟩ := hrel
    by_cases hlt : k < n
    · obtain ⟨x, hx⟩ : ∃ x, l[k]? = some x := ⟨_, List.getElem?_eq_getElem (by have := HN.out; omega)⟩
      obtain ⟨b, o, rfl, hb, hc⟩ := (HV.out.keeps kk).at hx
      have hcap := HV.out.cap
      have hkl : (l.take k).length = k := by have := HN.out; simp; omega
      have hst := Lib.hid (usedL_snoc (l.take k) x)
      have hst2 := Lib.hid (take_next hx)
      have hl1 := usedL_take_len l k
      have HKL := Lib.hid hkl
      clear hx hkl
      generalize usedL (l.take k) = U at *
      by_cases h0 : 0 < x
      · have hst3 : Hid (usedL (l.take (k + 1)) = U ++ [(k : Int)]) := by show _ = _; rw [hst2.out, hst.out, if_pos h0, HKL.out]
        go_wp2_with (first | (at_builtin; refine (wpList_append_own _ rfl _ _ 22 rfl w.heap.size 3 i0 (.int .i64 0) 1 8 Try.underlying22 hi hz0 hz1 hz2 rfl (by decide) u2 U.length _ rfl (hown.alloc _) ⟨wr.heap.size, 0, none⟩ 1 1 [.int .i64 (k : Int)] rfl rfl (cell_one_new _ _ _) (by simp [Value.oneCell']) (by unfold maxLen; omega) (by omega) (by have := kk.size; simp; omega) ?_); intro v5 w5 hown5 hg5 _))
        go_roundw
        case rel =>
          refine ⟨k + 1, by omega, by go_num, by rw [hst3.out]; simpa using hown5, ?_⟩
          refine Keeps.trans (kk.alloc _) (Keeps.of_grown (S := u2.ownBlock.toList) hg5 (fun j hj => by simpa using hj)) (fun j hj hlt2 => ?_)
          have hj' : u2.ownBlock = some j := by simpa using hj
          have := (hown.lt j hj').1
          omega
        case measure => simp [intOf]; omega
      · have hst3 : Hid (usedL (l.take (k + 1)) = U) := by show _ = _; rw [hst2.out, hst.out, if_neg h0, List.append_nil]
        have hd : decide (0 < x) = false := by simpa using h0
        go_wp2_with fail
        go_roundw
        case rel => exact ⟨k + 1, by omega, by go_num, by rw [hst3.out]; exact hown, kk⟩
        case measure => simp [intOf]; omega
    · have : k = n := by omega
      subst this
      go_wp2_with fail
      go_ret
      have h1 := hown
      rw [HN.out, List.take_length] at h1
      exact ⟨_, rfl, h1, kk⟩


/-- An element, 0 beyond the end. -/
def atL (l : List Int) (s : Nat) : Int := (l[s]?).getD 0
theorem at_any (v : Value) (l : List Int) (s : Nat) (w : World) (hv : RdI .i64 w v l) (hs : s ≤ 1000000000) :
    Calls Try.prog 52 #[v, .int .i64 s] w fun e w' => e = .returned (.int .i64 (atL l s)) ∧ w = w' := by
  obtain ⟨A0, n, cp0, rfl, hnl, -⟩ := hv.form
  by_cases hlt : s < n
  · obtain ⟨x, hx⟩ : ∃ x, l[s]? = some x := ⟨_, List.getElem?_eq_getElem (by omega)⟩
    obtain ⟨b, o, rfl, hb, hc⟩ := hv.at hx
    have hcap := hv.cap
    have hd : decide ((n : Int) ≤ (s : Int)) = false := decide_eq_false (by omega)
    have hlt' : (s : Int) < (n : Int) := by omega
    have hs0 : (0 : Int) ≤ (s : Int) := Int.natCast_nonneg _
    have hfin : Hid (atL l s = x) := by show _ = _; simp [atL, hx]
    clear hv hnl hx
    go_enter Try.func52, Try.ntmps52
    go_wp2_with fail
    go_ret
    exact ⟨ret_int hfin.out.symm, rfl⟩
  · have hfin : Hid (atL l s = 0) := by show _ = _; simp [atL, List.getElem?_eq_none (show l.length ≤ s by omega)]
    have hge : (n : Int) ≤ (s : Int) := by omega
    clear hv hnl
    go_enter Try.func52, Try.ntmps52
    go_wp2_with fail
    go_ret
    exact ⟨ret_int hfin.out.symm, rfl⟩

theorem must_yes (n : Int) (w : World) : Calls Try.prog 37 #[.bool true, .int .i64 n] w fun e w' => e = .returned (.tuple #[]) ∧ w = w' := by
  go_enter Try.func37, Try.ntmps37
  go_wp2
  go_end0
  exact ⟨rfl, rfl⟩

/-- must: the condition does not hold: it panics with the error. -/
theorem must_no (n : Int) (w : World) : Calls Try.prog 37 #[.bool false, .int .i64 n] w fun e w' => e = .panicked [{ v := .iface 26 (.int .i64 n), recovered := false }] ∧ w = w' := by
  go_enter Try.func37, Try.ntmps37
  go_wp2
  exact ⟨rfl, rfl, rfl⟩

def inW (o : Int) : Bool := decide (1 ≤ o) && decide (o ≤ 134217728)
def rightB (a b c : Int) : Bool := inW a && (inW b && inW c)


end Go.Proofs.Ythjbngnihcmedaa
