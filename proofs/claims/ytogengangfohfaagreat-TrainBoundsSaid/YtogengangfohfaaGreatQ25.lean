/-
  The law on the worth of bytes: its walk.
  The reference of training: Pieces.
  The law on the segments of samples: its walk.
  Context where the samples are refused: the error, and a context of zeros.
-/
import Derived.Test.YtogengangfohfaaGreatQ24
import Derived.Test.YtogengangfohfaaGreatQ13
import Derived.Test.YtogengangfohfaaGreatQ1
import Derived.Test.YtogengangfohfaaGreatQ18
import Derived.Test.YtogengangfohfaaGreatQ9
import Derived.Test.YtogengangfohfaaGreatQ23
import Derived.Test.YtogengangfohfaaGreatQ3
namespace Go.Proofs.YtogengangfohfaaGreat
section
set_option linter.unusedVariables false
set_option linter.unusedSimpArgs false
set_option linter.unusedSectionVars false
open Go.RowKit

theorem LawEnd.of_keeps {w w' : World} (h : Keeps w w' []) : LawEnd w (.returned (.bool true)) w' :=
  ⟨rfl, h.os, h.tape, h.output, h.size, fun k hk => h.block k hk (by simp)⟩
theorem scoreN_R (b : List Int) (l : List (List Int)) : scoreN b l = scoreR b l := rfl

set_option maxRecDepth 100000 in
set_option maxHeartbeats 4000000 in
theorem law_worth (vb v : Value) (b : List Int) (l : List (List Int)) (w : World) (hvb : RdI .u8 w vb b) (hb : ∀ x ∈ b, 0 ≤ x ∧ x ≤ 255) (hv : RdL .u8 w v l) (hl : ∀ b ∈ l, ∀ x ∈ b, 0 ≤ x ∧ x ≤ 255) :
    Calls Tryz.prog 4 #[vb, v] w (LawEnd w) := by
  have HF : ∀ r : Bool, (fewL l ↔ r = true) → Hid (Calls Tryz.prog 10 #[v] w fun e w' => e = .returned (.bool r) ∧ w = w') := fun r h => few_any v l w hv h
  by_cases hf : fewL l
  · have HF1 := HF true (by simp [hf])
    clear HF
    obtain ⟨A0, n0, cp0, rfl, hn0, -⟩ := hvb.form
    by_cases hn : 200 < n0
    · obtain ⟨A1, n1, cp1, rfl, hn1, -⟩ := hv.form
      have hn' : (200 : Int) < (n0 : Int) := by omega
      clear hvb hv hf hn0 hn1 hb hl
      go_enter Tryz.func4, Tryz.ntmps4
      go_wp2_with (first
        | (go_at_call 10; refine HF1.out.mono ?_; rintro e w5 ⟨rfl, rfl⟩)
        | (go_at_call 11; refine (works_true _).mono ?_; rintro e w5 ⟨rfl, kk⟩))
      go_ret
      exact LawEnd.of_keeps kk
    · have hn' : decide ((200 : Int) < (n0 : Int)) = false := decide_eq_false (by omega)
      have HV := Lib.hid hv
      have H1 := Lib.hid (score_any _ v b l w hvb hb (by omega) hv hl (by have := hf.1; omega))
      have H2 := Lib.hid (fun w' (k : Keeps w w' []) => rWorth_any _ v b l w' (hvb.keeps k) hb (by omega) (hv.keeps k) hl (by have := hf.1; omega))
      have hbd : badN l = (if mayL l then 0 else 2) := rfl
      rw [scoreN_R, hbd] at H1
      obtain ⟨A1, n1, cp1, rfl, hn1, -⟩ := hv.form
      generalize scoreR b l = SC at *
      generalize (if mayL l then (0 : Int) else 2) = BD at *
      clear hvb hv hf hn0 hn1 hb hl hbd
      go_enter Tryz.func4, Tryz.ntmps4
      go_wp2_with (go_at_call 10; refine HF1.out.mono ?_; rintro e w5 ⟨rfl, rfl⟩)
      refine H1.out.mono ?_
      rintro e w1 ⟨rfl, k1⟩
      go_wp2_with fail
      refine (H2.out w1 k1).mono ?_
      rintro e w2 ⟨rfl, k2⟩
      go_wp2_with (first
        | (go_at_call 16; refine (num_any _ _).mono ?_; rintro e w5 ⟨rfl, rfl⟩)
        | (go_at_call 11; refine (works_true _).mono ?_; rintro e w5 ⟨rfl, kk⟩))
      go_ret
      exact LawEnd.of_keeps ((k1.then k2).then kk)
  · have HF1 := HF false (by simp [hf])
    obtain ⟨A0, n0, cp0, rfl, hn0, -⟩ := hvb.form
    obtain ⟨A1, n1, cp1, rfl, hn1, -⟩ := hv.form
    clear HF hvb hv hf hn0 hn1 hb hl
    go_enter Tryz.func4, Tryz.ntmps4
    go_wp2_with (first
      | (go_at_call 10; refine HF1.out.mono ?_; rintro e w5 ⟨rfl, rfl⟩)
      | (go_at_call 11; refine (works_true _).mono ?_; rintro e w5 ⟨rfl, kk⟩))
    go_ret
    exact LawEnd.of_keeps kk
end

section
set_option linter.unusedVariables false
set_option linter.unusedSimpArgs false
set_option linter.unusedSectionVars false
open Go.RowKit

/-- How the reference's Pieces ends. -/
def RPcEnd (w : World) (l : List (List Int)) (e : Ending) (w' : World) : Prop := Keeps w w' [] ∧
  ((mayL l ∧ ∃ v' vs', e = .returned (.tuple #[v', .int .i64 0]) ∧ OwnV w' w.heap.size v' vs' ∧ RdV .u8 w' vs' (piecesL l)) ∨ (¬ mayL l ∧ e = .returned (.tuple #[.slice none 0 0, .int .i64 2])))

set_option maxRecDepth 100000 in
set_option maxHeartbeats 4000000 in
theorem rpieces_any (v : Value) (l : List (List Int)) (w : World) (hv : RdL .u8 w v l) (hll : l.length ≤ 1000000000) :
    Calls Tryz.prog 18 #[v] w (RPcEnd w l) := by
  obtain ⟨j0, hj0, yz0, yz1, yz2⟩ := info_parts Tryz.infoSl
  obtain ⟨i0, hi0, hz0, hz1, hz2⟩ := info_parts Tryz.infoByte
  have HM : ∀ r : Bool, (mayL l ↔ r = true) → Hid (Calls Tryz.prog 35 #[v] w fun e w' => e = .returned (.bool r) ∧ w = w') := fun r h => rmay_any v l w hv hll h
  by_cases hm : mayL l
  rotate_left
  · have HM1 := HM false (by simp [hm])
    have HMM := Lib.hid hm
    obtain ⟨A1, n1, cp1, rfl, -⟩ := hv.form
    clear HM hm hv
    go_enter Tryz.func18, Tryz.ntmps18
    go_wp2_with (first | (go_at_call 35; refine HM1.out.mono ?_; rintro e w2 ⟨rfl, rfl⟩))
    go_ret2
    exact ⟨Keeps.refl _ _, .inr ⟨HMM.out, rfl⟩⟩
  have HM1 := HM true (by simp [hm])
  have HMM := Lib.hid hm
  have hl := hm.1
  have HBL := Lib.hid hm.2
  obtain ⟨A0, n0, cp0, rfl, hn0, -⟩ := hv.form
  have HV := Lib.hid hv
  have HN := Lib.hid hn0
  have hn1 : n0 ≤ 1024 := by omega
  clear HM hm hv hn0 hl hll
  go_enter Tryz.func18, Tryz.ntmps18
  go_wp2_with (first | (go_at_call 35; refine HM1.out.mono ?_; rintro e w2 ⟨rfl, rfl⟩))
  clear HM1
  go_loopw [4, 5] (fun s4 s5 wr => ∃ (i : Nat) (a : Option Addr) (c M : Nat) (vs : List Value), i ≤ n0 ∧ s5 = .int .i64 i ∧ s4 = .slice a M c ∧ M ≤ i * 4097 ∧ wr.ownsRow w.heap.size 33 1 s4 M vs ∧ Hid (vs.length = M) ∧ Hid (RdV .u8 w vs (longP (allP (l.take i)))) ∧ Keeps w wr []) (fun _ s5 _ => n0 - (intOf s5).toNat)
  case atStart => exact ⟨0, none, 0, 0, [], Nat.zero_le _, rfl, rfl, Nat.le_refl _, World.ownsRow_nil _ _ _ _, rfl, RdV.nil, Keeps.refl _ _⟩
  case round =>
    obtain ⟨i, a, c, M, vs, hi, rfl, rfl, hM, ow, hvs, pc, kk⟩ := hrel
    by_cases hlt : i < n0
    · obtain ⟨b, hb⟩ : ∃ b, l[i]? = some b := ⟨_, List.getElem?_eq_getElem (by have := HN.out; omega)⟩
      obtain ⟨bb, oo, vi, rfl, hbb, hcc0, hri, hcap⟩ := HV.out.at hb
      have hii : (i : Int) < (n0 : Int) := by omega
      have hbl := HBL.out b (List.mem_of_getElem? hb)
      have hst : Hid (allP (l.take (i + 1)) = allP (l.take i) ++ chunkL b) := by show _ = _; rw [List.take_add_one, hb]; exact allP_snoc _ _
      obtain ⟨a2, n2, c2, rfl, hn2, -⟩ := hri.form
      have HR := Lib.hid hri
      have HN2 := Lib.hid hn2
      have hn2b : n2 ≤ 131072 := by omega
      have hPC0 : Hid (RdV .u8 w vs (longP (allP (l.take i) ++ (chunkL b).take 0))) := by show RdV _ _ _ _; rw [List.take_zero, List.append_nil]; exact pc.out
      obtain ⟨Q, hQ⟩ : ∃ Q, Q = chN n2 := ⟨_, rfl⟩
      have HQ : Hid (Q = (n2 + 31) / 32) := hQ
      clear hb hri hn2 pc hQ
      go_wp2_with fail
      go_loopw [4, 6] (fun s4 s6 wx => ∃ (t : Nat) (a : Option Addr) (c N : Nat) (us : List Value), t ≤ Q ∧ s6 = .int .i64 ((32 * t : Nat) : Int) ∧ s4 = .slice a N c ∧ N ≤ i * 4097 + t ∧ wx.ownsRow w.heap.size 33 1 s4 N us ∧ Hid (us.length = N) ∧ Hid (RdV .u8 w us (longP (allP (l.take i) ++ (chunkL b).take t))) ∧ Keeps w wx []) (fun _ s6 _ => 32 * Q - (intOf s6).toNat)
      case atStart => exact ⟨0, a, c, M, vs, Nat.zero_le _, rfl, rfl, hM, ow, hvs, hPC0, kk⟩
      case round =>
        obtain ⟨t, a, c, N, us, ht, rfl, rfl, hN, ow, hus, pc, kk⟩ := hrel
        have hcc := (kk.cell (p := ⟨bb, oo + i, none⟩) hbb (by simp)).trans hcc0
        by_cases hlt6 : 32 * t < n2
        · have htQ : t < Q := by have := HQ.out; omega
          obtain ⟨K, hK⟩ : ∃ K : Nat, K = 32 * t := ⟨_, rfl⟩
          have hkt : (K : Int) < (n2 : Int) := by omega
          obtain ⟨E, hE⟩ : ∃ E : Nat, E = min 32 (n2 - K) := ⟨_, rfl⟩
          obtain ⟨b3, o3, rfl, hb3, -⟩ := HR.out.addr (by omega)
          have hcap2 := HR.out.cap
          have hE1 : E ≤ 32 := by omega
          have hE2 : K + E ≤ n2 := by omega
          have hwr : IntKind.i64.wrap ((K : Int) + 32) = (K : Int) + 32 := IntWalk.i64_in _ (by omega)
          have hpc := HR.out.piece (p := K) (q := E) (by omega) (c2 - K) (by omega)
          have hel : (b.drop K).take E = (b.drop (32 * t)).take 32 := by
            rw [hK, List.take_eq_take_iff]; simp; have := HN2.out; omega
          rw [hel] at hpc
          have hstep : (chunkL b).take (t + 1) = (chunkL b).take t ++ [(b.drop (32 * t)).take 32] := chunk_take (by have := HN2.out; omega)
          have hxl : ((b.drop (32 * t)).take 32).length = E := by rw [← hel, List.length_take, List.length_drop]; have := HN2.out; omega
          have HPC := Lib.hid hpc
          have HK := Lib.hid hK
          rw [← hK]
          generalize (b.drop (32 * t)).take 32 = y at *
          clear hel hpc hK
          obtain ⟨ye, hye, hcs⟩ : ∃ ye : Int, ye = ((K + E : Nat) : Int) ∧ (((n2 : Int) < (K : Int) + 32 ∧ ye = (n2 : Int)) ∨ (decide ((n2 : Int) < (K : Int) + 32) = false ∧ ye = (K : Int) + 32)) := by
            refine ⟨_, rfl, ?_⟩
            by_cases h : n2 < K + 32
            · exact .inl ⟨by omega, by omega⟩
            · exact .inr ⟨decide_eq_false (by omega), by omega⟩
          have hsl := fun w => run_slice2 (P := Tryz.prog) Tryz.underlying33 hi0 hz1 (b := b3) (o := o3) (n := n2) (c := c2) (i := K) (j := K + E) (x := (K : Int)) (y := ye) rfl hye (by omega) (by omega) (by omega) w
          rw [show K + E - K = E by omega] at hsl
          have OW := Lib.hid ow
          have HXL := Lib.hid hxl
          have HST := Lib.hid hstep
          clear hE ow hxl hstep
          by_cases h6 : 6 ≤ E
          · have h6' : (6 : Int) ≤ (E : Int) := by omega
            have hlp : Hid (longP (allP (l.take i) ++ (chunkL b).take (t + 1)) = longP (allP (l.take i) ++ (chunkL b).take t) ++ [y]) := by
              show _ = _
              rw [HST.out, ← List.append_assoc]
              exact longP_yes (by rw [HXL.out]; exact h6)
            have hpc2 : Hid (RdV .u8 w (us ++ [.slice (some ⟨b3, o3 + K, none⟩) E (c2 - K)]) (longP (allP (l.take i) ++ (chunkL b).take (t + 1)))) := by show RdV _ _ _ _; rw [hlp.out]; exact pc.out.snoc HPC.out
            have hus2 : Hid ((us ++ [Value.slice (some ⟨b3, o3 + K, none⟩) E (c2 - K)]).length = N + 1) := by show _ = _; simp [hus.out]
            have hks := kk.size
            have hNb : N ≤ 10000000 := by have := HQ.out; omega
            have htn : ((K : Int) + 32).toNat = K + 32 := by omega
            rcases hcs with ⟨hc1, rfl⟩ | ⟨hc1, rfl⟩
            · obtain rfl : E = n2 - K := by omega
              clear hye htn
              go_wp2_with fail
              go_quiet (fail)
              have ow2 : Hid ((wr.drewN nq).ownsRow w.heap.size 33 1 (.slice a N c) N us) := own_keeps OW.out ((Keeps.refl wr []).drewN nq)
              go_wp2_with (at_builtin; go_loud (refine wpList_app1V rfl _ _ 22 rfl w.heap.size 33 j0 (.slice none 0 0) 24 Tryz.underlying22 hj0 yz0 yz1 yz2 rfl (.slice a N c) N us (.slice (some ⟨b3, o3 + K, none⟩) (n2 - K) (c2 - K)) rfl wr.heap.size rfl rfl rfl ow2.out (by unfold maxLen; omega) (by omega) hks ?_; intro a3 c3 w3 own3 k3))
              have kk3 := keeps_row (kk.drewN nq) k3 (fun g hg => (World.ownsRow.lt OW.out g hg).1)
              go_roundw
              case rel => exact ⟨t + 1, a3, c3, N + 1, _, by omega, by rw [HK.out]; go_num, rfl, by omega, own3, hus2, hpc2, kk3⟩
              case measure => simp [intOf]; have := HK.out; omega
            · obtain rfl : E = 32 := by omega
              clear hye
              go_wp2_with fail
              go_quiet (fail)
              have ow2 : Hid ((wr.drewN nq).ownsRow w.heap.size 33 1 (.slice a N c) N us) := own_keeps OW.out ((Keeps.refl wr []).drewN nq)
              go_wp2_with (at_builtin; go_loud (refine wpList_app1V rfl _ _ 22 rfl w.heap.size 33 j0 (.slice none 0 0) 24 Tryz.underlying22 hj0 yz0 yz1 yz2 rfl (.slice a N c) N us (.slice (some ⟨b3, o3 + K, none⟩) 32 (c2 - K)) rfl wr.heap.size rfl rfl rfl ow2.out (by unfold maxLen; omega) (by omega) hks ?_; intro a3 c3 w3 own3 k3))
              have kk3 := keeps_row (kk.drewN nq) k3 (fun g hg => (World.ownsRow.lt OW.out g hg).1)
              go_roundw
              case rel => exact ⟨t + 1, a3, c3, N + 1, _, by omega, by rw [HK.out]; go_num, rfl, by omega, own3, hus2, hpc2, kk3⟩
              case measure => simp [intOf]; have := HK.out; omega
          · have h6' : decide ((6 : Int) ≤ (E : Int)) = false := decide_eq_false (by omega)
            have hlp : Hid (longP (allP (l.take i) ++ (chunkL b).take (t + 1)) = longP (allP (l.take i) ++ (chunkL b).take t)) := by
              show _ = _
              rw [HST.out, ← List.append_assoc]
              exact longP_no (by rw [HXL.out]; exact h6)
            have hpc2 : Hid (RdV .u8 w us (longP (allP (l.take i) ++ (chunkL b).take (t + 1)))) := by show RdV _ _ _ _; rw [hlp.out]; exact pc.out
            have htn : ((K : Int) + 32).toNat = K + 32 := by omega
            rcases hcs with ⟨hc1, rfl⟩ | ⟨hc1, rfl⟩
            · obtain rfl : E = n2 - K := by omega
              clear hye htn
              go_wp2_with fail
              go_quiet (fail)
              have ow2 := own_keeps OW.out ((Keeps.refl wr []).drewN nq)
              have kk2 := kk.drewN nq
              go_wp2_with fail
              go_roundw
              case rel => exact ⟨t + 1, a, c, N, us, by omega, by rw [HK.out]; go_num, rfl, by omega, ow2, hus, hpc2, kk2⟩
              case measure => simp [intOf]; have := HK.out; omega
            · exact absurd (by omega : 6 ≤ E) h6
        · obtain rfl : t = Q := by have := HQ.out; omega
          have hkt : decide (((32 * t : Nat) : Int) < (n2 : Int)) = false := decide_eq_false (by omega)
          have hall : (chunkL b).take t = chunkL b := chunk_all (by have := HN2.out; omega)
          rw [hall, ← hst.out] at pc
          have hQb : t ≤ 4097 := by have := HQ.out; omega
          have hNb2 : N ≤ (i + 1) * 4097 := by omega
          clear hall
          go_wp2_with fail
          go_roundw
          case rel => exact ⟨i + 1, a, c, N, us, by omega, by go_num, rfl, hNb2, ow, hus, pc, kk⟩
          case measure => simp [intOf]; omega
    · have hii : decide ((i : Int) < (n0 : Int)) = false := decide_eq_false (by omega)
      have hall : l.take i = l := List.take_of_length_le (by have := HN.out; omega)
      rw [hall] at pc
      have h3 := hvs.out
      subst h3
      have PC := Lib.hid (pc.out.keeps kk)
      clear pc hall
      go_wp2_with fail
      go_ret2
      exact ⟨kk, .inl ⟨HMM.out, _, vs, rfl, ow, PC.out⟩⟩
end

section
set_option linter.unusedVariables false
set_option linter.unusedSimpArgs false
set_option linter.unusedSectionVars false
open Go.RowKit

theorem rdI_nil {w : World} : RdI .u8 w (.slice none 0 0) [] := ⟨_, _, _, rfl, rfl, (fun _ => ⟨rfl, rfl⟩), fun h => by omega⟩
theorem rdL_nil {w : World} : RdL .u8 w (.slice none 0 0) [] := ⟨_, _, _, rfl, rfl, fun h => by omega⟩
def pcs (l : List (List Int)) : List (List Int) := if mayL l then piecesL l else []
/-- What Segments and its reference give alike. -/
def PcAll (w : World) (l : List (List Int)) (e : Ending) (w' : World) : Prop :=
  ∃ v, e = .returned (.tuple #[v, .int .i64 (badN l)]) ∧ RdL .u8 w' v (pcs l) ∧ Keeps w w' []
theorem SegEnd.all {w w' : World} {l : List (List Int)} {e : Ending} (h : SegEnd w l e w') : PcAll w l e w' := by
  obtain ⟨k, ⟨hm, v, vs, rfl, o, p⟩ | ⟨hm, rfl⟩⟩ := h
  · exact ⟨v, by rw [badN, if_pos hm], by rw [pcs, if_pos hm]; exact rdL_of o p.1, k⟩
  · exact ⟨_, by rw [badN, if_neg hm], by rw [pcs, if_neg hm]; exact rdL_nil, k⟩
theorem RPcEnd.all {w w' : World} {l : List (List Int)} {e : Ending} (h : RPcEnd w l e w') : PcAll w l e w' := by
  obtain ⟨k, ⟨hm, v, vs, rfl, o, p⟩ | ⟨hm, rfl⟩⟩ := h
  · exact ⟨v, by rw [badN, if_pos hm], by rw [pcs, if_pos hm]; exact rdL_of o p, k⟩
  · exact ⟨_, by rw [badN, if_neg hm], by rw [pcs, if_neg hm]; exact rdL_nil, k⟩

theorem pcs_len {l : List (List Int)} (h : fewL l) : (pcs l).length ≤ 24582 := by
  unfold pcs
  split
  · have h1 := longP_len (allP l)
    have h2 : (allP l).length ≤ l.length * 4097 := allP_len2 (fun b hb => by have := h.2 b hb; omega)
    have h3 := h.1
    unfold piecesL
    omega
  · simp

set_option maxRecDepth 100000 in
set_option maxHeartbeats 4000000 in
theorem law_tpieces (v : Value) (l : List (List Int)) (w : World) (hv : RdL .u8 w v l) (hl : ∀ b ∈ l, ∀ x ∈ b, 0 ≤ x ∧ x ≤ 255) :
    Calls Tryz.prog 5 #[v] w (LawEnd w) := by
  have HF : ∀ r : Bool, (fewL l ↔ r = true) → Hid (Calls Tryz.prog 10 #[v] w fun e w' => e = .returned (.bool r) ∧ w = w') := fun r h => few_any v l w hv h
  by_cases hf : fewL l
  · have HF1 := HF true (by simp [hf])
    have HPL := Lib.hid (pcs_len hf)
    have HC := Lib.hid (seg_any v l w hv (by have := hf.1; omega))
    have HR := Lib.hid (fun w2 (k2 : Keeps w w2 []) => rpieces_any v l w2 (hv.keeps k2) (by have := hf.1; omega))
    obtain ⟨A1, n1, cp1, rfl, hn1, -⟩ := hv.form
    clear HF hv hf hn1 hl
    go_enter Tryz.func5, Tryz.ntmps5
    go_wp2_with (go_at_call 10; refine HF1.out.mono ?_; rintro e w5 ⟨rfl, rfl⟩)
    refine HC.out.mono ?_
    rintro e w1 h1
    obtain ⟨v1, rfl, r1, k1⟩ := h1.all
    have R1 := Lib.hid r1
    obtain ⟨a1, m1, c1, rfl, hm1, -⟩ := r1.form
    have HM1 := Lib.hid hm1
    clear h1 r1 HC HF1 hm1
    go_wp2_with fail
    refine (HR.out w1 k1).mono ?_
    rintro e w2 h2
    obtain ⟨v2, rfl, r2, k2⟩ := h2.all
    have R2 := Lib.hid r2
    have R1' := Lib.hid (R1.out.keeps k2)
    obtain ⟨a2, m2, c2, rfl, hm2, -⟩ := r2.form
    obtain rfl : m2 = m1 := by have := HM1.out; omega
    have HM := HM1
    have hm24 : m2 ≤ 24582 := by have := HM1.out; have := HPL.out; omega
    have K2 := Lib.hid (k1.then k2)
    generalize pcs l = P at *
    generalize badN l = bd at *
    clear h2 r2 R1 HR hm2 k1 k2 HPL
    go_wp2_with (go_at_call 16; refine (num_any _ _).mono ?_; rintro e w5 ⟨rfl, rfl⟩)
    go_loopw [7] (fun s7 wr => ∃ i : Nat, i ≤ m2 ∧ s7 = .int .i64 i ∧ Keeps w2 wr []) (fun s7 _ => m2 - (intOf s7).toNat)
    case atStart => exact ⟨0, Nat.zero_le _, rfl, Keeps.refl _ _⟩
    case round =>
      obtain ⟨i, hi, rfl, kr⟩ := hrel
      by_cases hlt : i < m2
      · obtain ⟨q, hq⟩ : ∃ b, P[i]? = some b := ⟨_, List.getElem?_eq_getElem (by have := HM.out; omega)⟩
        obtain ⟨b1, o1, u1, rfl, hb1, hc1, hr1, -⟩ := (R1'.out.keeps kr).at hq
        obtain ⟨b2, o2, u2, rfl, hb2, hc2, hr2, -⟩ := (R2.out.keeps kr).at hq
        obtain ⟨d1, n1, e1, rfl, -, -⟩ := hr1.form
        obtain ⟨d2, n2, e2, rfl, -, -⟩ := hr2.form
        have hii : (i : Int) < (m2 : Int) := by omega
        have HX : Hid (∀ w9, Keeps wr w9 [] → w9.cell? ⟨b1, o1 + i, none⟩ = some (.slice d1 n1 e1) ∧ w9.cell? ⟨b2, o2 + i, none⟩ = some (.slice d2 n2 e2) ∧
            (convert 33 9 (.slice d1 n1 e1)).run Tryz.prog w9 = .ok (.string (strOfNums q)) w9 ∧
            (convert 33 9 (.slice d2 n2 e2)).run Tryz.prog w9 = .ok (.string (strOfNums q)) w9) := fun w9 k9 =>
          ⟨(k9.cell (p := ⟨b1, o1 + i, none⟩) hb1 (by simp)).trans hc1, (k9.cell (p := ⟨b2, o2 + i, none⟩) hb2 (by simp)).trans hc2,
            str_of (hr1.keeps k9) Tryz.underlying33 Tryz.underlying5 Tryz.underlying9,
            str_of (hr2.keeps k9) Tryz.underlying33 Tryz.underlying5 Tryz.underlying9⟩
        generalize strOfNums q = ST at *
        have kr0 := Lib.hid kr
        clear hq hr1 hr2 hc1 hc2 kr
        have k9r := Keeps.refl wr []
        go_wp2_with fail
        refine wp_region_held_drew (S := (fun w' => Keeps wr w' [])) (by kernel_rfl) k9r.drew (fun hHeld => ?_)
        refine takeL (i := 0) (v := ?_) rfl (by kernel_rfl) (by kernel_rfl) (by kernel_rfl) (fun _ _ _ h => h) (by rfl) ?_ (by assumption) ?_
        rotate_left
        · (intro w9 hSw; obtain ⟨x1, x2, x3, x4⟩ := HX.out w9 hSw; clear hSw; go_simp; (try with_reducible rfl))
        try simp only [Act.put, List.setIfInBounds_toArray, List.set_cons_zero, List.set_cons_succ]
        refine takeL (i := 1) (v := ?_) rfl (by kernel_rfl) (by kernel_rfl) (by kernel_rfl) (fun _ _ _ h => h) (by rfl) ?_ (by assumption) ?_
        rotate_left
        · (intro w9 hSw; obtain ⟨x1, x2, x3, x4⟩ := HX.out w9 hSw; clear hSw; go_simp; (try with_reducible rfl))
        try simp only [Act.put, List.setIfInBounds_toArray, List.set_cons_zero, List.set_cons_succ]
        refine takeL (i := 2) (v := ?_) rfl (by kernel_rfl) (by kernel_rfl) (by kernel_rfl) (fun _ _ _ h => h) (by rfl) ?_ (by assumption) ?_
        rotate_left
        · (intro w9 hSw; obtain ⟨x1, x2, x3, x4⟩ := HX.out w9 hSw; clear hSw; go_simp; (try with_reducible rfl))
        try simp only [Act.put, List.setIfInBounds_toArray, List.set_cons_zero, List.set_cons_succ]
        refine takeL (i := 3) (v := ?_) rfl (by kernel_rfl) (by kernel_rfl) (by kernel_rfl) (fun _ _ _ h => h) (by rfl) ?_ (by assumption) ?_
        rotate_left
        · (intro w9 hSw; obtain ⟨x1, x2, x3, x4⟩ := HX.out w9 hSw; clear hSw; go_simp; (try with_reducible rfl))
        try simp only [Act.put, List.setIfInBounds_toArray, List.set_cons_zero, List.set_cons_succ]
        refine takeL (i := 4) (v := ?_) rfl (by kernel_rfl) (by kernel_rfl) (by kernel_rfl) (fun _ _ _ h => h) (by rfl) ?_ (by assumption) ?_
        rotate_left
        · (intro w9 hSw; obtain ⟨x1, x2, x3, x4⟩ := HX.out w9 hSw; clear hSw; go_simp; (try with_reducible rfl))
        try simp only [Act.put, List.setIfInBounds_toArray, List.set_cons_zero, List.set_cons_succ]
        refine takeL (i := 5) (v := ?_) rfl (by kernel_rfl) (by kernel_rfl) (by kernel_rfl) (fun _ _ _ h => h) (by rfl) ?_ (by assumption) ?_
        rotate_left
        · (intro w9 hSw; obtain ⟨x1, x2, x3, x4⟩ := HX.out w9 hSw; clear hSw; go_simp; (try with_reducible rfl))
        try simp only [Act.put, List.setIfInBounds_toArray, List.set_cons_zero, List.set_cons_succ]
        refine takeL (i := 6) (v := ?_) rfl (by kernel_rfl) (by kernel_rfl) (by kernel_rfl) (fun _ _ _ h => h) (by rfl) ?_ (by assumption) ?_
        rotate_left
        · (intro w9 hSw; obtain ⟨x1, x2, x3, x4⟩ := HX.out w9 hSw; clear hSw; go_simp; (try with_reducible rfl))
        try simp only [Act.put, List.setIfInBounds_toArray, List.set_cons_zero, List.set_cons_succ]
        refine takeL (i := 7) (v := ?_) rfl (by kernel_rfl) (by kernel_rfl) (by kernel_rfl) (fun _ _ _ h => h) (by rfl) ?_ (by assumption) ?_
        rotate_left
        · (intro w9 hSw; obtain ⟨x1, x2, x3, x4⟩ := HX.out w9 hSw; clear hSw; go_simp; (try with_reducible rfl))
        try simp only [Act.put, List.setIfInBounds_toArray, List.set_cons_zero, List.set_cons_succ]
        refine takeL (i := 8) (v := ?_) rfl (by kernel_rfl) (by kernel_rfl) (by kernel_rfl) (fun _ _ _ h => h) (by rfl) ?_ (by assumption) ?_
        rotate_left
        · (intro w9 hSw; obtain ⟨x1, x2, x3, x4⟩ := HX.out w9 hSw; clear hSw; go_simp; (try with_reducible rfl))
        try simp only [Act.put, List.setIfInBounds_toArray, List.set_cons_zero, List.set_cons_succ]
        refine takeL (i := 9) (v := ?_) rfl (by kernel_rfl) (by kernel_rfl) (by kernel_rfl) (fun _ _ _ h => h) (by rfl) ?_ (by assumption) ?_
        rotate_left
        · (intro w9 hSw; obtain ⟨x1, x2, x3, x4⟩ := HX.out w9 hSw; clear hSw; go_simp; (try with_reducible rfl))
        try simp only [Act.put, List.setIfInBounds_toArray, List.set_cons_zero, List.set_cons_succ]
        refine takeL (i := 10) (v := ?_) rfl (by kernel_rfl) (by kernel_rfl) (by kernel_rfl) (fun _ _ _ h => h) (by rfl) ?_ (by assumption) ?_
        rotate_left
        · (intro w9 hSw; obtain ⟨x1, x2, x3, x4⟩ := HX.out w9 hSw; clear hSw; go_simp; (try with_reducible rfl))
        try simp only [Act.put, List.setIfInBounds_toArray, List.set_cons_zero, List.set_cons_succ]
        refine wpAnyH_done (by kernel_rfl) ?_ _
        go_wp2_with fail
        go_roundw
        case rel => exact ⟨i + 1, by omega, by go_num, kr0.out.then hHeld⟩
        case measure => simp [intOf]; omega
      · have hii : decide ((i : Int) < (m2 : Int)) = false := decide_eq_false (by omega)
        have kr0 := Lib.hid (K2.out.then kr)
        clear kr
        go_wp2_with (go_at_call 11; refine (works_true _).mono ?_; rintro e w5 ⟨rfl, kk⟩)
        go_ret
        exact LawEnd.of_keeps (kr0.out.then kk)
  · have HF1 := HF false (by simp [hf])
    obtain ⟨A1, n1, cp1, rfl, hn1, -⟩ := hv.form
    clear HF hv hf hn1 hl
    go_enter Tryz.func5, Tryz.ntmps5
    go_wp2_with (first
      | (go_at_call 10; refine HF1.out.mono ?_; rintro e w5 ⟨rfl, rfl⟩)
      | (go_at_call 11; refine (works_true _).mono ?_; rintro e w5 ⟨rfl, kk⟩))
    go_ret
    exact LawEnd.of_keeps kk
end

section
set_option linter.unusedVariables false
set_option linter.unusedSimpArgs false
set_option linter.unusedSectionVars false
open Go.RowKit

abbrev zero10 : Array Value := #[.slice none 0 0, .int .i64 0, .slice none 0 0, .int .i64 0, .slice none 0 0, .int .i64 0, .slice none 0 0, .int .i64 0, .int .i64 0, .int .i64 0]

set_option maxRecDepth 100000 in
set_option maxHeartbeats 4000000 in
/-- The deferred function where an error was raised: the result is cleared, the error is laid. -/
theorem tcaught_ctx (pe po : Nat) (n : Int) (z : Value) (te : TypeId) (older : List PanicEntry) (w : World) (he : Blk w pe #[z] te) (ho : Blk w po zero10 54) (h1 : pe ≠ po) :
    CallsD Tryz.prog 42 #[.pointer (some ⟨pe, 0, none⟩), .func (.func 57) #[] #[.pointer (some ⟨po, 0, none⟩)]] (.panicking (raisedBy n false :: older)) w fun e u' w' =>
      e = .returned (.tuple #[]) ∧ u' = .panicking (raisedBy n true :: older) ∧ Blk w' po zero10 54 ∧ Blk w' pe #[.int .i64 n] te ∧ Keeps w w' [po, pe] := by
  obtain ⟨c0, f0⟩ := he.one
  have z0 : w.cell? ⟨po, 0, none⟩ = some (.slice none 0 0) := ho.cell 0
  have z1 : w.cell? ⟨po, 1, none⟩ = some (.int .i64 0) := ho.cell 1
  have z2 : w.cell? ⟨po, 2, none⟩ = some (.slice none 0 0) := ho.cell 2
  have z3 : w.cell? ⟨po, 3, none⟩ = some (.int .i64 0) := ho.cell 3
  have z4 : w.cell? ⟨po, 4, none⟩ = some (.slice none 0 0) := ho.cell 4
  have z5 : w.cell? ⟨po, 5, none⟩ = some (.int .i64 0) := ho.cell 5
  have z6 : w.cell? ⟨po, 6, none⟩ = some (.slice none 0 0) := ho.cell 6
  have z7 : w.cell? ⟨po, 7, none⟩ = some (.int .i64 0) := ho.cell 7
  have z8 : w.cell? ⟨po, 8, none⟩ = some (.int .i64 0) := ho.cell 8
  have z9 : w.cell? ⟨po, 9, none⟩ = some (.int .i64 0) := ho.cell 9
  have y : ∀ i, w.frozen? ⟨po, i, none⟩ = false := fun i => ho.frozen i
  have HO := Lib.hid ho
  have HE := Lib.hid he
  have hta : ∀ w : World, (Instr.typeAssert (.iface 34 (.int .i64 n)) 20 34 true).run Tryz.prog w = .ok (.tuple #[.int .i64 n, .bool true]) w := fun _ => by kernel_rfl
  have h1' := h1.symm
  clear ho he
  refine callsD_of_wpS Tryz.func42 rfl fun c₀ cs hu => ?_
  simp only [Tryz.ntmps42, List.size_toArray, List.length_cons, List.length_nil, Nat.reduceAdd, Nat.reduceSub, Array.replicate_succ, Array.replicate_zero, List.push_toArray, List.append_toArray, List.nil_append, List.cons_append]
  apply wpS_seq
  apply wpS_region
  simp [wpOpsS, go_sem, recoverD, hu, Exit.thenS, raisedBy]
  refine wpS_of_wp ?_
  have HU := Lib.hid hu
  clear hu
  go_wp2
  go_end0
  go_wp2
  have k0 : Keeps w w [po, pe] := Keeps.refl w _
  have b := HO.out
  have d := HE.out
  replace k0 := k0.setCell (a := ⟨po, 0, none⟩) (.inr (by simp)) (.slice none 0 0)
  replace d := d.setOther (a := ⟨po, 0, none⟩) (by dsimp only; exact h1') (.slice none 0 0)
  replace b := tset b 0 (.slice none 0 0) (by rfl)
  replace k0 := k0.setCell (a := ⟨po, 1, none⟩) (.inr (by simp)) (.int .i64 0)
  replace d := d.setOther (a := ⟨po, 1, none⟩) (by dsimp only; exact h1') (.int .i64 0)
  replace b := tset b 1 (.int .i64 0) (by rfl)
  replace k0 := k0.setCell (a := ⟨po, 2, none⟩) (.inr (by simp)) (.slice none 0 0)
  replace d := d.setOther (a := ⟨po, 2, none⟩) (by dsimp only; exact h1') (.slice none 0 0)
  replace b := tset b 2 (.slice none 0 0) (by rfl)
  replace k0 := k0.setCell (a := ⟨po, 3, none⟩) (.inr (by simp)) (.int .i64 0)
  replace d := d.setOther (a := ⟨po, 3, none⟩) (by dsimp only; exact h1') (.int .i64 0)
  replace b := tset b 3 (.int .i64 0) (by rfl)
  replace k0 := k0.setCell (a := ⟨po, 4, none⟩) (.inr (by simp)) (.slice none 0 0)
  replace d := d.setOther (a := ⟨po, 4, none⟩) (by dsimp only; exact h1') (.slice none 0 0)
  replace b := tset b 4 (.slice none 0 0) (by rfl)
  replace k0 := k0.setCell (a := ⟨po, 5, none⟩) (.inr (by simp)) (.int .i64 0)
  replace d := d.setOther (a := ⟨po, 5, none⟩) (by dsimp only; exact h1') (.int .i64 0)
  replace b := tset b 5 (.int .i64 0) (by rfl)
  replace k0 := k0.setCell (a := ⟨po, 6, none⟩) (.inr (by simp)) (.slice none 0 0)
  replace d := d.setOther (a := ⟨po, 6, none⟩) (by dsimp only; exact h1') (.slice none 0 0)
  replace b := tset b 6 (.slice none 0 0) (by rfl)
  replace k0 := k0.setCell (a := ⟨po, 7, none⟩) (.inr (by simp)) (.int .i64 0)
  replace d := d.setOther (a := ⟨po, 7, none⟩) (by dsimp only; exact h1') (.int .i64 0)
  replace b := tset b 7 (.int .i64 0) (by rfl)
  replace k0 := k0.setCell (a := ⟨po, 8, none⟩) (.inr (by simp)) (.int .i64 0)
  replace d := d.setOther (a := ⟨po, 8, none⟩) (by dsimp only; exact h1') (.int .i64 0)
  replace b := tset b 8 (.int .i64 0) (by rfl)
  replace k0 := k0.setCell (a := ⟨po, 9, none⟩) (.inr (by simp)) (.int .i64 0)
  replace d := d.setOther (a := ⟨po, 9, none⟩) (by dsimp only; exact h1') (.int .i64 0)
  replace b := tset b 9 (.int .i64 0) (by rfl)
  replace k0 := k0.setCell (a := ⟨pe, 0, none⟩) (.inr (by simp)) (.int .i64 n)
  replace b := b.setOther (a := ⟨pe, 0, none⟩) (by dsimp only; exact h1) (.int .i64 n)
  have d2 := tone d (.int .i64 n)
  refine ⟨rfl, .panicking (raisedBy n true :: older), ?_, .tuple #[], by simp [results, Tryz.results42], rfl, rfl, b, d2, k0⟩
  simp [raisedBy]

set_option maxRecDepth 100000 in
set_option maxHeartbeats 4000000 in
theorem ctx_bad (v vc : Value) (l : List (List Int)) (w : World) (hv : RdL .u8 w v l) (hll : l.length ≤ 1000000000) (hbad : ¬ mayL l) :
    Calls Tryz.prog 22 #[v, vc] w fun e w' => e = .returned (.tuple #[.agg zero10, .int .i64 2]) ∧ Keeps w w' [] := by
  have hmf : ∀ (fn : Fn) (first cap : Array Value) (w : World), (Instr.makeFunc fn first cap).run Tryz.prog w = .ok (.func fn first cap) w := fun _ _ _ _ => rfl
  have k0 : Keeps w ((w.alloc (.cells zero10 54)).alloc (.cells #[.int .i64 0] 34)) [] := ((Keeps.refl w []).alloc _).alloc _
  have bo := (Blk.new w zero10 54).alloc (.cells #[.int .i64 0] 34)
  have be := Blk.new (w.alloc (.cells zero10 54)) #[.int .i64 0] 34
  simp only [World.size_alloc] at be
  have HO := Lib.hid (of_any v l _ (hv.keeps k0) hll)
  have HB := Lib.hid hbad
  obtain ⟨A1, n1, cp1, rfl, -, -⟩ := hv.form
  clear hv hbad
  go_enter_defers Tryz.func22, Tryz.ntmps22
  go_wp2_with fail
  generalize ((w.alloc (.cells zero10 54)).alloc (.cells #[.int .i64 0] 34)) = W0 at *
  refine HO.out.mono ?_
  rintro e w1 ⟨k1, (⟨hm, rfl⟩ | ⟨hm, rfl⟩)⟩
  · exact (HB.out hm).elim
  replace bo := bo.keeps k1 (by simp)
  replace be := be.keeps k1 (by simp)
  replace k0 := k0.then k1
  clear k1 HO hm
  go_wp2_with fail
  refine leaves_cons (f := 42) (args := #[.pointer (some ⟨w.heap.size + 1, 0, none⟩), .func (.func 57) #[] #[.pointer (some ⟨w.heap.size, 0, none⟩)]]) (by simp) (by simp [go_sem]) ?_
  refine (tcaught_ctx _ _ 2 _ _ [] _ be bo (by omega)).mono ?_
  rintro e u' w'' ⟨rfl, rfl, bo9, be9, k9⟩
  have z0 : w''.cell? ⟨w.heap.size, 0, none⟩ = some (.slice none 0 0) := bo9.cell 0
  have z1 : w''.cell? ⟨w.heap.size, 1, none⟩ = some (.int .i64 0) := bo9.cell 1
  have z2 : w''.cell? ⟨w.heap.size, 2, none⟩ = some (.slice none 0 0) := bo9.cell 2
  have z3 : w''.cell? ⟨w.heap.size, 3, none⟩ = some (.int .i64 0) := bo9.cell 3
  have z4 : w''.cell? ⟨w.heap.size, 4, none⟩ = some (.slice none 0 0) := bo9.cell 4
  have z5 : w''.cell? ⟨w.heap.size, 5, none⟩ = some (.int .i64 0) := bo9.cell 5
  have z6 : w''.cell? ⟨w.heap.size, 6, none⟩ = some (.slice none 0 0) := bo9.cell 6
  have z7 : w''.cell? ⟨w.heap.size, 7, none⟩ = some (.int .i64 0) := bo9.cell 7
  have z8 : w''.cell? ⟨w.heap.size, 8, none⟩ = some (.int .i64 0) := bo9.cell 8
  have z9 : w''.cell? ⟨w.heap.size, 9, none⟩ = some (.int .i64 0) := bo9.cell 9
  have y0 := be9.cell 0
  refine ⟨.tuple #[.agg zero10, .int .i64 2], by simp only [results, Tryz.results22]; go_simp, rfl, k0.trans k9 (fun j hj hlt => by simp at hj; omega)⟩
end

end Go.Proofs.YtogengangfohfaaGreat
