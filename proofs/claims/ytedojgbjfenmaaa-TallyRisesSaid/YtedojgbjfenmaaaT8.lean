/-
  Walks over package tally: Cost.
-/
import Derived.Test.YtedojgbjfenmaaaT3
import Derived.Test.YtedojgbjfenmaaaT6
import Derived.Test.YtedojgbjfenmaaaT7
namespace Go.Proofs.Ytedojgbjfenmaaa
set_option linter.unusedVariables false
set_option linter.unusedSimpArgs false
set_option linter.unusedSectionVars false
open Go.RowKit

/-- A quiet callee, met in a world that has drawn before. -/
theorem quiet_same2 {P : Program} {f : FuncId} {args : Array Value} {w : World} {nd n : Nat} {v : Value} (h : Calls P f args (w.drewN (nd + n)) fun e w' => e = .returned v ∧ w' = w.drewN (nd + n)) :
    Calls P f args (w.drewN (nd + n)) fun e w'' => e = .returned v ∧ ∃ m, w'' = w.drewN (nd + m) := h.mono fun _ _ ⟨he, hm⟩ => ⟨he, n, hm⟩

set_option maxHeartbeats 2000000 in
theorem cost1_any (v : Value) (l : List Int) (w : World) (hv : RdI .i64 w v l) (hr : rightL l = true) :
    Calls Try.prog 51 #[.agg #[v]] w fun e w' => e = .returned (.int .i64 (costL l)) ∧ Keeps w w' [] := by
  have hle := (rightL_iff.1 hr).1
  have hn : l.length ≤ 1000000 := by omega
  have HT : Hid (∀ w', Keeps w w' [] → Calls Try.prog 41 #[v] w' fun e w'' => e = .returned (.int .i64 (sumL l)) ∧ w'' = w') := fun w' k => total_any v l w' (hv.keeps k) hr
  have HU : Hid (∀ w', Keeps w w' [] → Calls Try.prog 43 #[v] w' (OwnEnd w' 3 .i64 (usedL l))) := fun w' k => used_any v l w' (hv.keeps k) hn
  obtain ⟨A0, n, cp0, rfl, hnl, -⟩ := hv.form
  have hT := sumL_tot hr
  have hUl : (usedL l).length ≤ 256 := by have := usedL_len l; omega
  have HV := Lib.hid hv
  have HR := Lib.hid hr
  have HN := Lib.hid hnl
  have hk0 := (Keeps.refl w []).alloc (.cells #[.slice A0 n cp0] 63)
  have b1 := Blk.new w #[.slice A0 n cp0] 63
  clear hv hr hnl
  obtain ⟨T, hTe⟩ : ∃ T, T = sumL l := ⟨_, rfl⟩
  obtain ⟨U, hUe⟩ : ∃ U, U = usedL l := ⟨_, rfl⟩
  rw [← hTe] at HT hT
  rw [← hUe] at HU hUl
  have HTe := Lib.hid hTe
  have HUe := Lib.hid hUe
  clear hTe hUe
  go_enter Try.func51, Try.ntmps51
  go_wp2_with fail
  refine (HT.out _ hk0).mono ?_
  rintro e w1 ⟨rfl, rfl⟩
  go_wp2_with fail
  refine (HU.out _ hk0).mono ?_
  rintro e w1 ⟨vu, rfl, own, k1⟩
  obtain ⟨au, cu, rfl⟩ := own_form own
  replace b1 := b1.keeps k1 (by simp)
  have rU := own_reads own
  have kw := hk0.then k1
  have HVw := Lib.hid (HV.out.keeps kw)
  have HRU := Lib.hid rU
  obtain ⟨c1, -⟩ := b1.one
  have hlt1 := b1.lt
  clear own rU k1 hk0 b1
  go_wp2_with fail
  go_loopw [2, 13] (fun s i wr => ∃ (k nd : Nat), k ≤ U.length ∧ i = .int .i64 k ∧ s = .int .i64 (costF T ((U.take k).map (getI l))) ∧ wr = w1.drewN nd) (fun _ i _ => U.length - (intOf i).toNat)
  case atStart => exact ⟨0, 0, Nat.zero_le _, rfl, by simp [costF], rfl⟩
  case round =>
    obtain ⟨k, nd, hk, rfl, rfl, rfl⟩ := hrel
    by_cases hlt : k < U.length
    · obtain ⟨s, hs⟩ : ∃ s, U[k]? = some s := ⟨_, List.getElem?_eq_getElem hlt⟩
      obtain ⟨b, o, rfl, hb, hc⟩ := HRU.out.at hs
      have hcap := HRU.out.cap
      have hmem : s ∈ usedL l := by rw [← HUe.out]; exact List.mem_of_getElem? hs
      obtain ⟨j, rfl, x, hx, hx0⟩ := usedL_mem hmem
      have hjl : j < n := by have := HN.out; have := (List.getElem?_eq_some_iff.1 hx).1; omega
      obtain ⟨b2, o2, rfl, hb2, hc2⟩ := HVw.out.at hx
      have hcap2 := HVw.out.cap
      have hg : getI l (j : Int) = x := by simp [getI, List.getD, hx]
      have hx1 := (right_get HR.out hx).2
      have hxt : x ≤ T := by rw [HTe.out]; exact sumL_ge (fun z hz => ((rightL_iff.1 HR.out).2 z hz).1) (List.mem_of_getElem? hx)
      have htb := term_bd hx0 hx1 hxt (by omega)
      have hcb := costU_bd HR.out k
      rw [← HTe.out, ← HUe.out] at hcb
      have hst : Hid (costF T ((U.take (k + 1)).map (getI l)) = costF T ((U.take k).map (getI l)) + x * (logI T - logI x)) := by
        show _ = _
        rw [take_next hs, List.map_append, List.map_singleton, costF_snoc, hg, if_pos hx0]
      have hl1 := logI_bd (n := T) (by omega)
      have hl2 := logI_nonneg x
      have hl3 := logI_le (m := x) (n := T) (by omega) hxt
      have hT1 : 1 ≤ T := by omega
      clear hs hmem hx hg hxt
      generalize costF T ((U.take k).map (getI l)) = C at *
      have e1 : IntKind.i64.wrap (logI T - logI x) = logI T - logI x := IntWalk.i64_in _ (by omega)
      have e2 : IntKind.i64.wrap (x * (logI T - logI x)) = x * (logI T - logI x) := IntWalk.i64_in _ (by omega)
      have e3 : IntKind.i64.wrap (C + x * (logI T - logI x)) = C + x * (logI T - logI x) := IntWalk.i64_in _ (by omega)
      have hki : (k : Int) < (U.length : Int) := by omega
      have hji : (j : Int) < (n : Int) := by omega
      have hj0 : (0 : Int) ≤ (j : Int) := Int.natCast_nonneg _
      go_wp2_with fail
      go_quiet ((go_at_call 50; exact quiet_same2 (log_any _ _ (by omega) (by omega))))
      clear e1 e2 e3
      go_wp2_with fail
      go_roundw
      case rel => exact ⟨k + 1, nd + nq, by omega, by go_num, by rw [hst.out], rfl⟩
      case measure => simp [intOf]; omega
    · have : k = U.length := by omega
      subst this
      go_wp2_with fail
      go_ret
      exact ⟨ret_int (by rw [List.take_length, HUe.out, HTe.out, costF_usedL]; rfl), kw.drewN nd⟩

set_option maxHeartbeats 400000 in
theorem cost_call (v : Value) (l : List Int) (w : World) (hv : RdI .i64 w v l) (hn : l.length ≤ 1000000) :
    Calls Try.prog 32 #[v] w fun e w' =>
      e = .returned (.tuple #[.int .i64 (if rightL l then costL l else 0), .int .i64 (if rightL l then 0 else 2)]) ∧ Keeps w w' [] := by
  have HG := Lib.hid (told_int 51 (costL l) v l w hv hn (enters_of Try.func51 (by kernel_rfl) rfl) (fun hr => cost1_any v l w hv hr))
  obtain ⟨A0, n, cp0, rfl, -⟩ := hv.form
  clear hv hn
  generalize (if rightL l then costL l else 0) = s at *
  generalize (if rightL l then (0 : Int) else 2) = e0 at *
  go_enter Try.func32, Try.ntmps32
  go_wp2_with fail
  refine HG.out.mono ?_
  rintro e w1 ⟨rfl, kk⟩
  go_wp2_with fail
  go_ret2
  exact ⟨rfl, kk⟩

end Go.Proofs.Ytedojgbjfenmaaa
