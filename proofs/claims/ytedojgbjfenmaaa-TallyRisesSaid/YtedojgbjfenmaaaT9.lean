/-
  Walks over package tally: IsRun.
-/
import Derived.Test.YtedojgbjfenmaaaT2
namespace Go.Proofs.Ytedojgbjfenmaaa
set_option linter.unusedVariables false
set_option linter.unusedSimpArgs false
set_option linter.unusedSectionVars false
open Go.RowKit

/-- All bytes equal the first; there is one. -/
def runB : List Int → Bool
  | [] => false
  | x :: l => l.all (fun y => y == x)
def runX (l : List Int) : Int := if runB l then l.getD 0 0 else 0

set_option maxHeartbeats 400000 in
theorem isrun1_any (pb : Nat) (c x : Int) (v : Value) (l : List Int) (w : World) (hp : Blk w pb #[v] 22) (hv : RdI .u8 w v l) (hx : l[0]? = some x) :
    Calls Try.prog 37 #[.int .u8 c, .pointer (some ⟨pb, 0, none⟩)] w fun e w' => e = .returned (.bool (c != x)) ∧ w' = w := by
  obtain ⟨A0, n, cp0, rfl, hnl, -⟩ := hv.form
  obtain ⟨c0, -⟩ := hp.one
  obtain ⟨b, o, rfl, hb, hc⟩ := hv.at hx
  rw [Nat.add_zero] at hc
  have hcap := hv.cap
  have hl1 : 1 ≤ n := by have := (List.getElem?_eq_some_iff.1 hx).1; omega
  clear hv hx hnl hp
  go_enter Try.func37, Try.ntmps37
  go_wp2_with fail
  go_ret
  exact ⟨rfl, rfl⟩

set_option maxHeartbeats 1000000 in
theorem index_run (pb : Nat) (x : Int) (v : Value) (l : List Int) (w : World) (hp : Blk w pb #[v] 22) (hv : RdI .u8 w v l) (hx0 : l[0]? = some x) (hn : l.length ≤ 1000000) :
    Calls Try.prog 56 #[v, .func (.func 37) #[] #[.pointer (some ⟨pb, 0, none⟩)]] w fun e w' => ∃ r : Int, e = .returned (.int .i64 r) ∧ (decide (0 ≤ r) = !l.all (fun y => y == x)) ∧ w' = w := by
  have G := Lib.hid (fun c => isrun1_any pb c x v l w hp hv hx0)
  obtain ⟨A0, n, cp0, rfl, hnl, -⟩ := hv.form
  have HV := Lib.hid hv
  have HN := Lib.hid hnl
  have hn' : n ≤ 1000000 := by omega
  clear hv hnl hn hp hx0
  go_enter Try.func56, Try.ntmps56
  go_wp2_with fail
  go_loop [8] (fun i => ∃ k : Nat, k ≤ n ∧ i = .int .i64 k ∧ Hid ((l.take k).all (fun y => y == x) = true)) (fun i => n - (intOf i).toNat)
  case atStart => exact ⟨0, Nat.zero_le _, rfl, by simp [Hid]⟩
  case round =>
    obtain ⟨k, hk, rfl, hall⟩ := hrel
    by_cases hlt : k < n
    · obtain ⟨y, hy⟩ : ∃ y, l[k]? = some y := ⟨_, List.getElem?_eq_getElem (by have := HN.out; omega)⟩
      obtain ⟨b, o, rfl, hb, hc⟩ := HV.out.at hy
      have hcap := HV.out.cap
      have HY := Lib.hid hy
      clear hy
      have G1 := G.out y
      cases hf : (y == x) with
      | true =>
        have hf' : (y != x) = false := by simp [bne, hf]
        rw [hf'] at G1
        have HF := Lib.hid hf
        have HG := Lib.hid G1
        clear hf hf' G1
        go_wp2_with (go_at_call 37; refine HG.out.mono ?_; rintro e w' ⟨rfl, rfl⟩)
        go_round
        case rel => exact ⟨k + 1, by omega, by go_num, by show _ = _; rw [take_next HY.out, List.all_append, hall.out]; simpa using HF.out⟩
        case measure => simp [intOf]; omega
      | false =>
        have hf' : (y != x) = true := by simp [bne, hf]
        rw [hf'] at G1
        have HF := Lib.hid hf
        have HG := Lib.hid G1
        clear hf hf' G1
        go_wp2_with (go_at_call 37; refine HG.out.mono ?_; rintro e w' ⟨rfl, rfl⟩)
        go_ret
        refine ⟨_, rfl, ?_, rfl⟩
        have : l.all (fun y => y == x) = false := by
          rw [List.all_eq_false]
          exact ⟨y, List.mem_of_getElem? HY.out, by rw [HF.out]; simp⟩
        rw [this]
        simp
    · have : k = n := by omega
      subst this
      go_wp2_with fail
      go_ret
      refine ⟨_, rfl, ?_, rfl⟩
      have h1 := hall.out
      rw [HN.out, List.take_length] at h1
      rw [h1]
      simp

set_option maxHeartbeats 400000 in
theorem contains_run (pb : Nat) (x : Int) (v : Value) (l : List Int) (w : World) (hp : Blk w pb #[v] 22) (hv : RdI .u8 w v l) (hx0 : l[0]? = some x) (hn : l.length ≤ 1000000) :
    Calls Try.prog 36 #[v, .func (.func 37) #[] #[.pointer (some ⟨pb, 0, none⟩)]] w fun e w' => e = .returned (.bool (!l.all (fun y => y == x))) ∧ w' = w := by
  have HG := Lib.hid (index_run pb x v l w hp hv hx0 hn)
  clear hv hp hx0
  go_enter Try.func36, Try.ntmps36
  go_wp2_with (go_at_call 56; refine HG.out.mono ?_; rintro e w' ⟨r, rfl, hr, rfl⟩; have HR := Lib.hid hr; clear hr)
  go_ret
  exact ⟨ret_bool HR.out, rfl⟩

def RunEnd (w : World) (l : List Int) (e : Ending) (w' : World) : Prop := e = .returned (.tuple #[.int .u8 (runX l), .bool (runB l)]) ∧ Keeps w w' []

set_option maxHeartbeats 1000000 in
theorem isrun_call (v : Value) (l : List Int) (w : World) (hv : RdI .u8 w v l) (hn : l.length ≤ 1000000) :
    Calls Try.prog 17 #[v] w (RunEnd w l) := by
  have hmf : ∀ (fn : Fn) (first cap : Array Value) (w : World), (Instr.makeFunc fn first cap).run Try.prog w = .ok (.func fn first cap) w := fun _ _ _ _ => rfl
  obtain ⟨A0, n, cp0, rfl, hnl, -⟩ := hv.form
  have hk := (Keeps.refl w []).alloc (.cells #[.slice A0 n cp0] 22)
  cases l with
  | nil =>
    have hn0 : n = 0 := hnl
    subst hn0
    clear hv hn hnl
    go_enter Try.func17, Try.ntmps17
    go_wp2_with fail
    go_ret2
    exact ⟨rfl, hk⟩
  | cons x l =>
    have hn1 : 1 ≤ n := by simp at hnl; omega
    have hne : ((n : Int) == 0) = false := by simp; omega
    have hv1 := hv.keeps hk
    have G := Lib.hid (contains_run w.heap.size x _ (x :: l) _ (Blk.new w _ _) hv1 rfl hn)
    obtain ⟨b, o, rfl, hb, hc⟩ := hv1.at (i := 0) (x := x) rfl
    rw [Nat.add_zero] at hc
    have hcap := hv.cap
    have HNL := Lib.hid hnl
    clear hv hv1 hnl
    cases hr : (x :: l).all (fun y => y == x) with
    | true =>
      rw [hr] at G
      have hfin : Hid (runX (x :: l) = x ∧ runB (x :: l) = true) := by
        have : runB (x :: l) = true := by simpa [runB] using hr
        exact ⟨by simp [runX, this], this⟩
      clear hr
      go_enter Try.func17, Try.ntmps17
      go_wp2_with (go_at_call 36; refine G.out.mono ?_; rintro e w' ⟨rfl, rfl⟩)
      go_ret2
      obtain ⟨h1, h2⟩ := hfin.out
      unfold RunEnd
      rw [h1, h2]
      exact ⟨rfl, hk⟩
    | false =>
      rw [hr] at G
      have hfin : Hid (runX (x :: l) = 0 ∧ runB (x :: l) = false) := by
        have : runB (x :: l) = false := by simpa [runB] using hr
        exact ⟨by simp [runX, this], this⟩
      clear hr
      go_enter Try.func17, Try.ntmps17
      go_wp2_with (go_at_call 36; refine G.out.mono ?_; rintro e w' ⟨rfl, rfl⟩)
      go_ret2
      obtain ⟨h1, h2⟩ := hfin.out
      unfold RunEnd
      rw [h1, h2]
      exact ⟨rfl, hk⟩

end Go.Proofs.Ytedojgbjfenmaaa
