/-
  Walks over package tally: Add.
-/
import Derived.Test.YtedojgbjfenmaaaT2
import Derived.Test.YtedojgbjfenmaaaT12
import Derived.Test.YtedojgbjfenmaaaShelf
import Derived.Deep.DeepCutAuto
namespace Go.Proofs.Ytedojgbjfenmaaa
set_option linter.unusedVariables false
set_option linter.unusedSimpArgs false
set_option linter.unusedSectionVars false
open Go.RowKit

/-- slices.Clone at []int. -/
theorem clone_any (v : Value) (l : List Int) (w : World) (hv : RdI .i64 w v l) (hn : l.length ≤ 1000000) :
    Calls Try.prog 48 #[v] w (OwnEnd w 3 .i64 l) := by
  obtain ⟨A0, n, cp0, rfl, hnl, h0, hc⟩ := hv.form
  cases A0 with
  | none =>
    obtain ⟨rfl, rfl⟩ := h0 rfl
    have : l = [] := List.eq_nil_of_length_eq_zero hnl.symm
    subst this
    refine (Try.slices_Clone_int_nil _ _ _).mono ?_
    rintro e w' ⟨rfl, rfl⟩
    exact ⟨_, rfl, World.ownsRow_nil _ _ _ _, Keeps.refl _ _⟩
  | some a =>
    by_cases hz : n = 0
    · subst hz
      have : l = [] := List.eq_nil_of_length_eq_zero hnl.symm
      subst this
      refine (Try.slices_Clone_int_zero _ _ _).mono ?_
      rintro e w' ⟨v', rfl, own, -, hb⟩
      exact ⟨_, rfl, own, Keeps.of_below hb⟩
    · obtain ⟨hcap, b, o, he, hb, hcell⟩ := hc (by omega)
      cases he
      refine (Try.slices_Clone_int b o n cp0 l w (by omega) (by omega) (fun j hj => ?_)).mono ?_
      · rw [hcell j _ (List.getElem?_eq_getElem hj)]
        simp [List.getD, List.getElem?_eq_getElem hj]
      · rintro e w' ⟨v', rfl, own, -, hb⟩
        rw [hnl, List.take_length] at own
        exact ⟨_, rfl, own, Keeps.of_below hb⟩

def AddEnd (w : World) (a b : List Int) (e : Ending) (w' : World) : Prop :=
  (addOk a b = true → ∃ v, e = .returned (.tuple #[v, .int .i64 0]) ∧ w'.ownsRow w.heap.size 3 1 v (addL a b).length ((addL a b).map (Value.int .i64)) ∧ Keeps w w' []) ∧
  (addOk a b = false → e = .returned (.tuple #[.slice none 0 0, .int .i64 2]) ∧ Keeps w w' [])

set_option maxHeartbeats 1000000 in
theorem add_no (v1 v2 : Value) (a b : List Int) (w : World) (h1 : RdI .i64 w v1 a) (h2 : RdI .i64 w v2 b) (hna : a.length ≤ 1000000) (hnb : b.length ≤ 1000000) (hr : rightL a = false ∨ rightL b = false) :
    Calls Try.prog 28 #[v1, v2] w (AddEnd w a b) := by
  have hfin : Hid (addOk a b = false) := by
    show _ = _
    rcases hr with h | h <;> simp [addOk, h]
  obtain ⟨A1, n1, c1, rfl, -⟩ := h1.form
  obtain ⟨A2, n2, c2, rfl, -⟩ := h2.form
  have HC1 := Lib.hid (check_any _ a w h1 hna)
  have HC2 := Lib.hid (check_any _ b w h2 hnb)
  clear h1 h2
  have fin : ∀ w', w' = w → AddEnd w a b (.returned (.tuple #[.slice none 0 0, .int .i64 2])) w' := fun w' he => by
    subst he
    exact ⟨(fun h => absurd (hfin.out.symm.trans h) (by decide)), fun _ => ⟨rfl, Keeps.refl _ _⟩⟩
  have HF := Lib.hid fin
  clear fin
  cases ha : rightL a with
  | false =>
    rw [ha] at HC1
    clear ha hr
    go_enter Try.func28, Try.ntmps28
    go_wp2_with fail
    refine HC1.out.mono ?_
    rintro e w' ⟨rfl, rfl⟩
    go_wp2_with fail
    go_ret2
    exact HF.out _ rfl
  | true =>
    have hb : rightL b = false := by rw [ha] at hr; simpa using hr
    rw [ha] at HC1
    rw [hb] at HC2
    clear ha hr hb
    go_enter Try.func28, Try.ntmps28
    go_wp2_with fail
    refine HC1.out.mono ?_
    rintro e w' ⟨rfl, rfl⟩
    go_wp2_with fail
    refine HC2.out.mono ?_
    rintro e w' ⟨rfl, rfl⟩
    go_wp2_with fail
    go_ret2
    exact HF.out _ rfl

set_option maxHeartbeats 2000000 in
theorem add_yes (v1 v2 : Value) (a b : List Int) (w : World) (h1 : RdI .i64 w v1 a) (h2 : RdI .i64 w v2 b) (ha : rightL a = true) (hb : rightL b = true) :
    Calls Try.prog 28 #[v1, v2] w (AddEnd w a b) := by
  have hla := (rightL_iff.1 ha).1
  have hlb := (rightL_iff.1 hb).1
  obtain ⟨A1, n1, c1, rfl, hn1, -⟩ := h1.form
  obtain ⟨A2, n2, c2, rfl, hn2, -⟩ := h2.form
  have HC1 : Hid (Calls Try.prog 20 #[.slice A1 n1 c1] w fun e w'' => e = .returned (.int .i64 0) ∧ w'' = w) := by
    have := check_any _ a w h1 (by omega); rw [ha] at this; exact this
  have HC2 : Hid (Calls Try.prog 20 #[.slice A2 n2 c2] w fun e w'' => e = .returned (.int .i64 0) ∧ w'' = w) := by
    have := check_any _ b w h2 (by omega); rw [hb] at this; exact this
  obtain ⟨AL, nL, cL, AS, nS, cS, L, S, hL, hS, hrL, hrS, hlen, hsum, hsel⟩ : ∃ AL nL cL AS nS cS L S, RdI .i64 w (.slice AL nL cL) L ∧ RdI .i64 w (.slice AS nS cS) S ∧ rightL L = true ∧ rightL S = true ∧ nS ≤ nL ∧ addL a b = addL L S ∧
      ((n1 < n2 ∧ AL = A2 ∧ nL = n2 ∧ cL = c2 ∧ AS = A1 ∧ nS = n1 ∧ cS = c1) ∨ (¬ n1 < n2 ∧ AL = A1 ∧ nL = n1 ∧ cL = c1 ∧ AS = A2 ∧ nS = n2 ∧ cS = c2)) := by
    by_cases h : n1 < n2
    · exact ⟨_, _, _, _, _, _, _, _, h2, h1, hb, ha, by omega, addL_comm a b, .inl ⟨h, rfl, rfl, rfl, rfl, rfl, rfl⟩⟩
    · exact ⟨_, _, _, _, _, _, _, _, h1, h2, ha, hb, by omega, rfl, .inr ⟨h, rfl, rfl, rfl, rfl, rfl, rfl⟩⟩
  have hok : Hid (addOk a b = rightL (addL L S)) := by show _ = _; rw [← hsum]; simp [addOk, ha, hb]
  have HSUM := Lib.hid hsum
  have HSEL := Lib.hid hsel
  have HL := Lib.hid hL
  have HS := Lib.hid hS
  have hnL := hL.len
  have hnS := hS.len
  have hL256 := (rightL_iff.1 hrL).1
  have hnL256 : nL ≤ 256 := by omega
  have HRL := Lib.hid hrL
  have HRS := Lib.hid hrS
  have HNL := Lib.hid hnL
  have HNS := Lib.hid hnS
  have GC := Lib.hid (clone_any (.slice AL nL nL) L w (by
    obtain ⟨q1, q2, q3, q4, q5, q6, q7⟩ := hL.form
    obtain ⟨z1, z2, z3⟩ := Value.slice.inj q4
    subst z1 z2 z3
    exact ⟨_, _, _, rfl, q5, fun h => ⟨(q6 h).1, (q6 h).1⟩, fun h => ⟨Nat.le_refl _, (q7 h).2⟩⟩) (by omega))
  have hcapL := hL.cap
  have hcapS := hS.cap
  clear h1 h2 ha hb hn1 hn2 hL hS hsum hsel hnL hnS hrL hrS hla hlb hL256
  go_enter Try.func28, Try.ntmps28
  go_wp2_with fail
  refine HC1.out.mono ?_
  rintro e w' ⟨rfl, rfl⟩
  go_upto_if 17 with fail
  refine HC2.out.mono ?_
  rintro e w' ⟨rfl, rfl⟩
  go_upto_if 22 with fail
  obtain ⟨w, rfl⟩ : ∃ w, w = w' := ⟨_, rfl⟩
  go_cut [0, 1] (fun s0 s1 wx => s0 = .slice AL nL cL ∧ s1 = .slice AS nS cS ∧ wx = w)
  case first =>
    rcases HSEL.out with ⟨h, rfl, rfl, rfl, rfl, rfl, rfl⟩ | ⟨h, rfl, rfl, rfl, rfl, rfl, rfl⟩
    · have hd : decide (nS < nL) = true := by simpa using h
      go_wp2_with fail
      go_meet
      exact ⟨rfl, rfl, rfl⟩
    · have hd : decide (nL < nS) = false := by simpa using h
      go_wp2_with fail
      go_meet
      exact ⟨rfl, rfl, rfl⟩
  case rest =>
    obtain ⟨rfl, rfl, rfl⟩ := hcut
    obtain ⟨w, rfl⟩ : ∃ w, w = wc := ⟨_, rfl⟩
    clear HSEL HC1 HC2
    go_wp2_with fail
    refine GC.out.mono ?_
    rintro e w1 ⟨v6, rfl, own, k1⟩
    obtain ⟨a6, c6, rfl⟩ := own_form own
    rw [← HNL.out] at own
    have hnL' : L.length = nL := HNL.out.symm
    have own' : w1.ownsRow w.heap.size 3 1 (.slice a6 nL c6) nL ((addL L (S.take 0)).map (Value.int .i64)) := by
      rw [List.take_zero, addL_nil]; exact own
    have HOWN := Lib.hid own'
    clear own own' hnL'
    rw [HNL.out.symm]
    go_wp2_with fail
    go_loopw [34] (fun i wr => ∃ (k : Nat), k ≤ nS ∧ i = .int .i64 k ∧ wr.ownsRow w.heap.size 3 1 (.slice a6 nL c6) nL ((addL L (S.take k)).map (Value.int .i64)) ∧ Keeps w wr []) (fun i _ => nS - (intOf i).toNat)
    case atStart => exact ⟨0, Nat.zero_le _, rfl, HOWN.out, k1⟩
    case round =>
      obtain ⟨k, hk, rfl, own, kk⟩ := hrel
      clear HOWN k1
      by_cases hlt : k < nS
      · obtain ⟨y, hy⟩ : ∃ y, S[k]? = some y := ⟨_, List.getElem?_eq_getElem (by have := HNS.out; omega)⟩
        obtain ⟨bS, oS, rfl, hbS, hcS⟩ := HS.out.at hy
        have hcS' := (kk.cell (p := ⟨bS, oS + k, none⟩) hbS (by simp)).trans hcS
        have hlk : (addL L (S.take k)).length = nL := by rw [addL_len]; have := HNL.out; have := HNS.out; simp; omega
        obtain ⟨z, hz⟩ : ∃ z, (addL L (S.take k))[k]? = some z := ⟨_, List.getElem?_eq_getElem (by omega)⟩
        have hzb := addL_bd (rightL_iff.1 HRL.out).2 (fun x hx => (rightL_iff.1 HRS.out).2 x (List.mem_of_mem_take hx)) z (List.mem_of_getElem? hz)
        have hyb := (rightL_iff.1 HRS.out).2 y (List.mem_of_getElem? hy)
        have hst := Lib.hid (addL_step hy hz (by have := HNL.out; omega))
        obtain ⟨g, rfl⟩ : ∃ g, a6 = some ⟨g, 0, none⟩ := by
          rcases own.2 with ⟨h1, h2⟩ | ⟨g, cap, cur, h1, -⟩
          · omega
          · cases h1; exact ⟨_, rfl⟩
        have hgb : w.heap.size ≤ g := (own.lt g rfl).1
        have hzc : wr.cell? ⟨g, k, none⟩ = some (.int .i64 z) := by
          rw [own.cellAt k (by omega), List.getElem?_map, hz]; rfl
        have hzf := own.frozenAt k
        have hcap6 : nL ≤ c6 := by
          rcases own.2 with ⟨h1, h2⟩ | ⟨g', cap, cur, h1, -, -, h4, -⟩
          · cases h1
          · cases h1; exact h4
        have hki : (k : Int) < (nL : Int) := by omega
        have hkS : (k : Int) < (nS : Int) := by omega
        have hown2 := fun u => (own.stored k u).1
        clear hy hz hcS hlk
        go_wp2_with fail
        go_roundw
        case rel => exact ⟨k + 1, by omega, by go_num, by rw [hst.out, List.map_set]; exact hown2 _, kk.setCell (.inl hgb) _⟩
        case measure => simp [intOf]; omega
      · have : k = nS := by omega
        subst this
        have hlk : (addL L S).length = nL := by rw [addL_len]; have := HNL.out; have := HNS.out; omega
        rw [HNS.out, List.take_length, ← hlk] at own
        have GK := Lib.hid (check_any _ _ wr (own_reads own) (by omega))
        rw [hlk] at GK
        have HLK := Lib.hid hlk
        have HOW := Lib.hid own
        clear own hlk
        cases hr : rightL (addL L S) with
        | true =>
          rw [hr] at GK hok
          clear hr
          go_wp2_with fail
          refine GK.out.mono ?_
          rintro e w3 ⟨rfl, rfl⟩
          go_wp2_with fail
          go_ret2
          refine ⟨fun _ => ⟨_, rfl, ?_, kk⟩, (fun h => absurd (hok.out.symm.trans h) (by decide))⟩
          have := HOW.out
          rw [HLK.out] at this
          rw [HSUM.out, HLK.out]
          exact this
        | false =>
          rw [hr] at GK hok
          clear hr
          go_wp2_with fail
          refine GK.out.mono ?_
          rintro e w3 ⟨rfl, rfl⟩
          go_wp2_with fail
          go_ret2
          exact ⟨(fun h => absurd (hok.out.symm.trans h) (by decide)), fun _ => ⟨rfl, kk⟩⟩

theorem add_call (v1 v2 : Value) (a b : List Int) (w : World) (h1 : RdI .i64 w v1 a) (h2 : RdI .i64 w v2 b) (hna : a.length ≤ 1000000) (hnb : b.length ≤ 1000000) :
    Calls Try.prog 28 #[v1, v2] w (AddEnd w a b) := by
  cases ha : rightL a with
  | false => exact add_no v1 v2 a b w h1 h2 hna hnb (.inl ha)
  | true =>
    cases hb : rightL b with
    | false => exact add_no v1 v2 a b w h1 h2 hna hnb (.inr hb)
    | true => exact add_yes v1 v2 a b w h1 h2 ha hb

end Go.Proofs.Ytedojgbjfenmaaa
