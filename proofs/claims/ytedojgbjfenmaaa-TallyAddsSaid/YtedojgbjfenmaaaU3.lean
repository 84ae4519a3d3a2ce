/-
  Walks over the reference of package tally: Add, Counts.
-/
import Derived.Test.YtedojgbjfenmaaaT11
import Derived.Test.YtedojgbjfenmaaaT13
import Derived.Test.YtedojgbjfenmaaaU1
import Derived.StillTailTactics
namespace Go.Proofs.Ytedojgbjfenmaaa
set_option linter.unusedVariables false
set_option linter.unusedSimpArgs false
set_option linter.unusedSectionVars false
open Go.RowKit

set_option maxHeartbeats 400000 in
theorem r_at (v : Value) (l : List Int) (k : Nat) (w : World) (hv : RdI .i64 w v l) (hn : l.length ≤ 1000000) :
    Calls Try.prog 49 #[v, .int .i64 k] w fun e w' => e = .returned (.int .i64 (l.getD k 0)) ∧ w' = w := by
  obtain ⟨A0, n, cp0, rfl, hnl, -⟩ := hv.form
  have hk0 : (0 : Int) ≤ (k : Int) := Int.natCast_nonneg _
  by_cases hlt : k < n
  · obtain ⟨x, hx⟩ : ∃ x, l[k]? = some x := ⟨_, List.getElem?_eq_getElem (by omega)⟩
    obtain ⟨b, o, rfl, hb, hc⟩ := hv.at hx
    have hcap := hv.cap
    have hfin : Hid (l.getD k 0 = x) := by show _ = _; simp [List.getD, hx]
    have h1 : (k : Int) < (n : Int) := by omega
    have h2 : decide (n ≤ k) = false := by simp; omega
    have h3 : decide ((n : Int) ≤ (k : Int)) = false := by simp; omega
    clear hv hx hnl hn
    go_enter Try.func49, Try.ntmps49
    go_wp2_with fail
    go_ret
    exact ⟨ret_int hfin.out.symm, rfl⟩
  · have hfin : Hid (l.getD k 0 = 0) := by show _ = _; simp [List.getD, List.getElem?_eq_none (show l.length ≤ k by omega)]
    have h1 : (n : Int) ≤ (k : Int) := by omega
    have h2 : decide (n ≤ k) = true := by simp; omega
    clear hv hnl hn
    go_enter Try.func49, Try.ntmps49
    go_wp2_with fail
    go_ret
    exact ⟨ret_int hfin.out.symm, rfl⟩

theorem addL_get {a b : List Int} {k : Nat} (hk : k < (addL a b).length) : (addL a b)[k]? = some (a.getD k 0 + b.getD k 0) := by
  rw [← addL_getD, List.getElem?_eq_getElem hk]
  simp [List.getD, List.getElem?_eq_getElem hk]
theorem getD_bd {l : List Int} (h : ∀ x ∈ l, 0 ≤ x ∧ x ≤ 2147483648) (k : Nat) : 0 ≤ l.getD k 0 ∧ l.getD k 0 ≤ 2147483648 := by
  by_cases hk : k < l.length
  · rw [show l.getD k 0 = l[k] by simp [List.getD, List.getElem?_eq_getElem hk]]
    exact h _ (List.getElem_mem hk)
  · rw [show l.getD k 0 = 0 by simp [List.getD, List.getElem?_eq_none (show l.length ≤ k by omega)]]
    omega

set_option maxHeartbeats 2000000 in
theorem r_add_yes (v1 v2 : Value) (a b : List Int) (w : World) (h1 : RdI .i64 w v1 a) (h2 : RdI .i64 w v2 b) (ha : rightL a = true) (hb : rightL b = true) :
    Calls Try.prog 29 #[v1, v2] w (AddEnd w a b) := by
  have hla := (rightL_iff.1 ha).1
  have hlb := (rightL_iff.1 hb).1
  obtain ⟨i0, hi, hz0, hz1, hz2⟩ := info_parts Try.infoInt
  obtain ⟨A1, n1, c1, rfl, hn1, -⟩ := h1.form
  obtain ⟨A2, n2, c2, rfl, hn2, -⟩ := h2.form
  have HC1 : Hid (Calls Try.prog 18 #[.slice A1 n1 c1] w fun e w'' => e = .returned (.bool true) ∧ w'' = w) := by
    have := r_right _ a w h1 (by omega); rw [ha] at this; exact this
  have HC2 : Hid (Calls Try.prog 18 #[.slice A2 n2 c2] w fun e w'' => e = .returned (.bool true) ∧ w'' = w) := by
    have := r_right _ b w h2 (by omega); rw [hb] at this; exact this
  have GA : Hid (∀ w' k, Keeps w w' [] → Calls Try.prog 49 #[.slice A1 n1 c1, .int .i64 (k : Nat)] w' fun e w'' => e = .returned (.int .i64 (a.getD k 0)) ∧ w'' = w') := fun w' k kk => r_at _ a k w' (h1.keeps kk) (by omega)
  have GB : Hid (∀ w' k, Keeps w w' [] → Calls Try.prog 49 #[.slice A2 n2 c2, .int .i64 (k : Nat)] w' fun e w'' => e = .returned (.int .i64 (b.getD k 0)) ∧ w'' = w') := fun w' k kk => r_at _ b k w' (h2.keeps kk) (by omega)
  have hok : Hid (addOk a b = rightL (addL a b)) := by show _ = _; simp [addOk, ha, hb]
  obtain ⟨M, hM⟩ : ∃ M, M = max n1 n2 := ⟨_, rfl⟩
  have HLM : Hid ((addL a b).length = M) := by show _ = _; rw [addL_len, hM, hn1, hn2]
  have HRA := Lib.hid ha
  have HRB := Lib.hid hb
  have hM256 : M ≤ 256 := by omega
  have hMM : (n1 < n2 ∧ M = n2) ∨ (¬ n1 < n2 ∧ M = n1) := by omega
  have HMM := Lib.hid hMM
  clear h1 h2 ha hb hn1 hn2 hM hla hlb hMM
  go_enter Try.func29, Try.ntmps29
  go_wp2_with fail
  refine HC1.out.mono ?_
  rintro e w' ⟨rfl, rfl⟩
  go_upto_if 15 with fail
  refine HC2.out.mono ?_
  rintro e w' ⟨rfl, rfl⟩
  obtain ⟨w, rfl⟩ : ∃ w, w = w' := ⟨_, rfl⟩
  go_wp2_with fail
  go_loopw [6, 7] (fun s i wr => ∃ (k : Nat), k ≤ M ∧ i = .int .i64 k ∧ wr.ownsRow w.heap.size 3 1 s k (((addL a b).take k).map (Value.int .i64)) ∧ Keeps w wr []) (fun _ i _ => M - (intOf i).toNat)
  case atStart => exact ⟨0, Nat.zero_le _, rfl, World.ownsRow_nil _ _ _ _, Keeps.refl _ _⟩
  case round =>
    obtain ⟨k, hk, rfl, own, kk⟩ := hrel
    by_cases hlt : k < M
    · have hx := getD_bd (rightL_iff.1 HRA.out).2 k
      have hy := getD_bd (rightL_iff.1 HRB.out).2 k
      have G1 := Lib.hid (GA.out wr k kk)
      have G2 := Lib.hid (GB.out wr k kk)
      have hst : Hid (((addL a b).take (k + 1)).map (Value.int .i64) = ((addL a b).take k).map (Value.int .i64) ++ [.int .i64 (a.getD k 0 + b.getD k 0)]) := by
        show _ = _
        rw [take_next (addL_get (by rw [HLM.out]; exact hlt)), List.map_append]; rfl
      generalize a.getD k 0 = x at *
      generalize b.getD k 0 = y at *
      have hkm : (k : Int) < max (n1 : Int) (n2 : Int) := by rcases HMM.out with ⟨h, h'⟩ | ⟨h, h'⟩ <;> omega
      go_wp2_with fail
      refine G1.out.mono ?_
      rintro e w3 ⟨rfl, rfl⟩
      go_wp2_with fail
      refine G2.out.mono ?_
      rintro e w4 ⟨rfl, rfl⟩
      obtain ⟨wr, rfl⟩ : ∃ wr, wr = w4 := ⟨_, rfl⟩
      go_wp2_with (first | (at_builtin; refine (wpList_append_own _ rfl _ _ 26 rfl w.heap.size 3 i0 (.int .i64 0) 1 8 Try.underlying26 hi hz0 hz1 hz2 rfl (by decide) u6 k _ rfl (own.alloc _) ⟨wr.heap.size, 0, none⟩ 1 1 [.int .i64 (x + y)] rfl rfl (cell_one_new _ _ _) (by simp [Value.oneCell']) (by unfold maxLen; omega) (by omega) (by have := kk.size; simp; omega) ?_); intro v5 w5 hown5 hg5 _))
      go_roundw
      case rel =>
        refine ⟨k + 1, by omega, by go_num, by rw [hst.out]; exact hown5, ?_⟩
        refine Keeps.trans (kk.alloc _) (Keeps.of_grown (S := u6.ownBlock.toList) hg5 (fun j hj => by simpa using hj)) (fun j hj hlt2 => ?_)
        have hj' : u6.ownBlock = some j := by simpa using hj
        have := (own.lt j hj').1
        omega
      case measure => simp [intOf]; omega
    · have : k = M := by omega
      subst this
      have hkm : max (n1 : Int) (n2 : Int) ≤ (k : Int) := by rcases HMM.out with ⟨h, h'⟩ | ⟨h, h'⟩ <;> omega
      have own2 : wr.ownsRow w.heap.size 3 1 u6 (addL a b).length ((addL a b).map (Value.int .i64)) := by
        have h2 : (addL a b).take k = addL a b := by rw [← HLM.out, List.take_length]
        rw [h2] at own
        rw [HLM.out]
        exact own
      have GK := Lib.hid (r_right _ _ wr (own_reads own2) (by rw [HLM.out]; omega))
      have HOW := Lib.hid own2
      obtain ⟨a6, c6, rfl⟩ := own_form own
      clear own own2
      cases hr : rightL (addL a b) with
      | true =>
        rw [hr] at GK hok
        clear hr
        go_wp2_with fail
        refine GK.out.mono ?_
        rintro e w3 ⟨rfl, rfl⟩
        go_wp2_with fail
        go_ret2
        exact ⟨fun _ => ⟨_, rfl, HOW.out, kk⟩, (fun h => absurd (hok.out.symm.trans h) (by decide))⟩
      | false =>
        rw [hr] at GK hok
        clear hr
        go_wp2_with fail
        refine GK.out.mono ?_
        rintro e w3 ⟨rfl, rfl⟩
        go_wp2_with fail
        go_ret2
        exact ⟨(fun h => absurd (hok.out.symm.trans h) (by decide)), fun _ => ⟨rfl, kk⟩⟩

set_option maxHeartbeats 1000000 in
theorem r_add_no (v1 v2 : Value) (a b : List Int) (w : World) (h1 : RdI .i64 w v1 a) (h2 : RdI .i64 w v2 b) (hna : a.length ≤ 1000000) (hnb : b.length ≤ 1000000) (hr : rightL a = false ∨ rightL b = false) :
    Calls Try.prog 29 #[v1, v2] w (AddEnd w a b) := by
  have hfin : Hid (addOk a b = false) := by
    show _ = _
    rcases hr with h | h <;> simp [addOk, h]
  obtain ⟨A1, n1, c1, rfl, -⟩ := h1.form
  obtain ⟨A2, n2, c2, rfl, -⟩ := h2.form
  have HC1 := Lib.hid (r_right _ a w h1 hna)
  have HC2 := Lib.hid (r_right _ b w h2 hnb)
  clear h1 h2
  have fin : ∀ w', w' = w → AddEnd w a b (.returned (.tuple #[.slice none 0 0, .int .i64 2])) w' := fun w' he => by
    subst he
    exact ⟨(fun h => absurd (hfin.out.symm.trans h) (by decide)), fun _ => ⟨rfl, Keeps.refl _ _⟩⟩
  have HF := Lib.hid fin
  clear fin
  cases ha : rightL a with
  | false =>
    rw [ha] at HC1
    clear ha hr
    go_enter Try.func29, Try.ntmps29
    go_wp2_with fail
    refine HC1.out.mono ?_
    rintro e w' ⟨rfl, rfl⟩
    go_wp2_with fail
    go_ret2
    exact HF.out _ rfl
  | true =>
    have hb : rightL b = false := by rw [ha] at hr; simpa using hr
    rw [ha] at HC1
    rw [hb] at HC2
    clear ha hr hb
    go_enter Try.func29, Try.ntmps29
    go_wp2_with fail
    refine HC1.out.mono ?_
    rintro e w' ⟨rfl, rfl⟩
    go_wp2_with fail
    refine HC2.out.mono ?_
    rintro e w' ⟨rfl, rfl⟩
    go_wp2_with fail
    go_ret2
    exact HF.out _ rfl

theorem r_add (v1 v2 : Value) (a b : List Int) (w : World) (h1 : RdI .i64 w v1 a) (h2 : RdI .i64 w v2 b) (hna : a.length ≤ 1000000) (hnb : b.length ≤ 1000000) :
    Calls Try.prog 29 #[v1, v2] w (AddEnd w a b) := by
  cases ha : rightL a with
  | false => exact r_add_no v1 v2 a b w h1 h2 hna hnb (.inl ha)
  | true =>
    cases hb : rightL b with
    | false => exact r_add_no v1 v2 a b w h1 h2 hna hnb (.inr hb)
    | true => exact r_add_yes v1 v2 a b w h1 h2 ha hb

end Go.Proofs.Ytedojgbjfenmaaa
