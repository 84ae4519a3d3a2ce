/-
  Walks over the reference of package weights: Tree.
-/
import Derived.Test.YtcmagccfagijlaaGreatQ36
import Derived.Test.YtcmagccfagijlaaGreatQ1
namespace Go.Proofs.YtcmagccfagijlaaGreat
set_option linter.unusedVariables false
set_option linter.unusedSimpArgs false
set_option linter.unusedSectionVars false
open Go.RowKit

def treeOut (l : List Int) : List Int := if okW l then tOf l else []

set_option maxRecDepth 100000 in
set_option maxHeartbeats 4000000 in
theorem r_tree_yes (v : Value) (l : List Int) (w : World) (hv : RdI .i64 w v l) (hn : l.length ≤ 1000000) (hok : okW l = true) : Calls Tryz.prog 101 #[v] w (LsEnd w (tOf l) 0) := by
  have HL2 : Hid (Calls Tryz.prog 138 #[v] w fun e w' => e = .returned (.tuple #[.int .i64 (kW l), .int .i64 (vW l), .int .i64 0]) ∧ Keeps w w' []) := (r_last v l w hv hn).mono fun e w' h => ⟨h.1 hok, by obtain ⟨m, hm⟩ := h.2.2; rw [hm]; exact (Keeps.refl w []).drewN m⟩
  obtain ⟨A0, n, cp0, rfl, hnl, -⟩ := hv.form
  have HV := Lib.hid hv
  have HN := Lib.hid hnl
  have hpre : (lenW l = true ∧ l.all (finM 11) = true) ∧ kW l ≤ 11 := by
    simp only [okW, Bool.and_eq_true, decide_eq_true_eq] at hok
    exact ⟨hok.1.1, hok.1.2.2.1⟩
  obtain ⟨s1, s2, s3, s4, s5, s6, s7, s8, s9⟩ := sums hpre.1.1 hpre.1.2
  have hn1 : n < 256 := by have := hpre.1.1; simp [lenW] at this; omega
  have hB := fun x hx => finM_iff.1 (List.all_eq_true.1 hpre.1.2 x hx)
  have HB := Lib.hid hB
  have hK := hpre.2
  obtain ⟨K, hKK⟩ : ∃ K, K = kW l := ⟨_, rfl⟩
  obtain ⟨V, hVV⟩ : ∃ V, V = vW l := ⟨_, rfl⟩
  have HTO : Hid (tOf l = (l ++ [(V : Int)]).map (wgt K)) := by show _ = _; rw [tOf, trL, hVV, hKK]
  rw [← hKK] at hK HL2
  rw [← hVV] at s8 s9 HL2
  obtain ⟨i0, hi, hz0, hz1, hz2⟩ := info_parts Tryz.infoInt
  clear hv hnl hn hok hpre s1 s2 s3 s4 s5 s6 s7 hB hKK hVV
  go_enter Tryz.func101, Tryz.ntmps101
  go_wp2_with fail
  refine HL2.out.mono ?_
  rintro e w1 ⟨rfl, k1⟩
  have HLL : Hid (l.length = n) := HN.out.symm
  have HL3 : Hid (l.length ≤ maxLen) := by have := HN.out; unfold Hid maxLen; omega
  have HL4 : Hid (l.length * 8 ≤ 140737488355328) := by have := HN.out; unfold Hid; omega
  clear HL2
  go_wp2_with (first
    | (refine wpList_copyI rfl rfl rfl 25 3 _ _ _ rfl rfl rfl i0 (.int .i64 0) 8 Tryz.underlying25 hi hz0 hz1 hz2 rfl (.slice A0 n cp0) (fun _ => rfl) (fun _ => rfl) (fun _ => rfl) .i64 l (HV.out.keeps k1) HL3.out HL4.out ?_; intro v0 va wa owna ka nea; obtain ⟨aa, ca, rfl⟩ := own_form owna; have OWNA := Lib.hid owna; have hws := ka.size; clear owna)
    | (at_builtin; refine (wpList_append_own _ rfl _ _ 25 rfl w1.heap.size 3 i0 (.int .i64 0) 1 8 Tryz.underlying25 hi hz0 hz1 hz2 rfl (by decide) (.slice aa l.length ca) l.length _ rfl (OWNA.out.alloc _) ⟨wa.heap.size, 0, none⟩ 1 1 [.int .i64 (V : Int)] rfl rfl (cell_one_new _ _ _) (by simp [Value.oneCell']) (by have := HLL.out; unfold maxLen; omega) (by have := HLL.out; omega) (by simp; omega) ?_); intro v5 w5 hown5 hg5 _; obtain ⟨ab, cb, rfl⟩ := own_form hown5; have OWNB := Lib.hid hown5; have HG := Lib.hid hg5; clear hown5 hg5))
  have kw : Hid (Keeps w w5 []) := by
    refine Keeps.trans (Keeps.alloc (k1.then ka) _) (Keeps.of_grown (S := (Value.slice aa l.length ca).ownBlock.toList) HG.out (fun j hj => by simpa using hj)) (fun j hj hlt2 => ?_)
    have hj' : (Value.slice aa l.length ca).ownBlock = some j := by simpa using hj
    have := (OWNA.out.lt j hj').1
    have := k1.size
    omega
  obtain ⟨g, rfl, hgw⟩ := own_some (by omega) OWNB.out
  have hgw2 : w.heap.size ≤ g := by have := k1.size; omega
  have heL : l.map (Value.int .i64) ++ [Value.int .i64 (V : Int)] = (l ++ [(V : Int)]).map (Value.int .i64) := by simp
  have HL2 : Hid ((l ++ [(V : Int)]).length = n + 1) := by have := HN.out; show _ = _; simp; omega
  rw [HLL.out, heL] at OWNB
  rw [HLL.out]
  have ROW := Lib.hid (rowI_own HL2.out OWNB.out)
  have HB2 : Hid (∀ x ∈ l ++ [(V : Int)], 0 ≤ x ∧ x ≤ 20) := fun x hx => by
    rcases List.mem_append.1 hx with h | h
    · have := HB.out x h; omega
    · rw [List.mem_singleton.1 h]; omega
  have hcap2 := ROW.out.cap
  generalize l ++ [(V : Int)] = L at *
  clear OWNA OWNB HG hws hgw heL nea ka HB k1
  have HST2 : Hid (∀ j x, L[j]? = some x → 0 < x → (trF (wgt K) L j).set j ((K : Int) + 1 - x) = trF (wgt K) L (j + 1)) := fun j x hx h0 => by
    have := trF_set (f := wgt K) hx
    rw [← this, wgt, if_pos h0]
  have HSN2 : Hid (∀ j x, L[j]? = some x → 0 ≤ x → ¬ 0 < x → trF (wgt K) L (j + 1) = trF (wgt K) L j) := fun j x hx h1 h0 => trF_same hx (by rw [wgt, if_neg h0]; omega)
  have HGT : Hid (∀ j x, L[j]? = some x → (trF (wgt K) L j)[j]? = some x) := fun j x hx => trF_get hx
  rw [← trF_all (wgt K) (show L.length ≤ n + 1 by have := HL2.out; omega)] at HTO
  have ROW0 : Hid (RowI w5 g (n + 1) cb (trF (wgt K) L 0)) := by rw [trF_zero]; exact ROW.out
  clear ROW
  generalize wgt (K : Int) = F at *
  go_loopw [8] (fun i wr => ∃ j : Nat, j ≤ n + 1 ∧ i = .int .i64 j ∧ Hid (RowI wr g (n + 1) cb (trF F L j)) ∧ Hid (Keeps w wr [])) (fun i _ => n + 1 - (intOf i).toNat)
  case atStart => exact ⟨0, Nat.zero_le _, rfl, ROW0, kw⟩
  case round =>
    clear ROW0 kw
    obtain ⟨j, hj, rfl, ROW, kk⟩ := hrel
    by_cases hjt : j < n + 1
    · obtain ⟨x, hx⟩ : ∃ x, L[j]? = some x := ⟨_, List.getElem?_eq_getElem (by have := HL2.out; omega)⟩
      have hxb := HB2.out x (List.mem_of_getElem? hx)
      have hbc := ROW.out.at (HGT.out j x hx)
      have hbf := ROW.out.frozen j
      have hst := Lib.hid (HST2.out j x hx)
      have hsn := Lib.hid (HSN2.out j x hx)
      have hjk : (j : Int) < (n : Int) + 1 := by omega
      clear hx
      by_cases h0 : 0 < x
      · have NR : Hid (RowI (wr.setCell ⟨g, j, none⟩ (.int .i64 ((K : Int) + 1 - x))) g (n + 1) cb (trF F L (j + 1))) := by rw [← hst.out h0]; exact ROW.out.set j _
        have NK : Hid (Keeps w (wr.setCell ⟨g, j, none⟩ (.int .i64 ((K : Int) + 1 - x))) []) := kk.out.setCell (.inl (by dsimp only; omega)) _
        clear hst hsn
        go_wp2_with fail
        go_roundw
        case rel => exact ⟨j + 1, by omega, by go_num, NR, NK⟩
        case measure => simp [intOf]; omega
      · have d0 : decide (0 < x) = false := decide_eq_false h0
        have NR : Hid (RowI wr g (n + 1) cb (trF F L (j + 1))) := by rw [hsn.out hxb.1 (by omega)]; exact ROW.out
        clear hst hsn
        go_wp2_with fail
        go_roundw
        case rel => exact ⟨j + 1, by omega, by go_num, NR, kk⟩
        case measure => simp [intOf]; omega
    · have hjk : ¬ ((j : Int) < (n : Int) + 1) := by omega
      obtain rfl : j = n + 1 := by omega
      have HRES : Hid (RdI .i64 wr (.slice (some ⟨g, 0, none⟩) (n + 1) cb) (tOf l)) := by rw [HTO.out]; exact ROW.out.reads
      clear ROW
      go_wp2_with fail
      go_ret2
      exact ⟨_, rfl, HRES.out, (fun ad m c he => by cases he; exact hgw2), kk.out⟩

set_option maxRecDepth 100000 in
theorem r_tree_no (v : Value) (l : List Int) (w : World) (hv : RdI .i64 w v l) (hn : l.length ≤ 1000000) (hok : okW l = false) : Calls Tryz.prog 101 #[v] w (LsEnd w [] 12) := by
  have HL2 : Hid (Calls Tryz.prog 138 #[v] w fun e w' => e = .returned (.tuple #[.int .i64 0, .int .i64 0, .int .i64 12]) ∧ Keeps w w' []) := (r_last v l w hv hn).mono fun e w' h => ⟨h.2.1 hok, by obtain ⟨m, hm⟩ := h.2.2; rw [hm]; exact (Keeps.refl w []).drewN m⟩
  obtain ⟨A0, n, cp0, rfl, hnl, -⟩ := hv.form
  clear hv hnl hn hok
  go_enter Tryz.func101, Tryz.ntmps101
  go_wp2_with fail
  refine HL2.out.mono ?_
  rintro e w1 ⟨rfl, k1⟩
  go_wp2_with fail
  go_ret2
  exact ⟨_, rfl, .nil, .nil, k1⟩

/-- Tree, whatever it is asked. -/
theorem r_tree (v : Value) (l : List Int) (w : World) (hv : RdI .i64 w v l) (hn : l.length ≤ 1000000) : Calls Tryz.prog 101 #[v] w (LsEnd w (treeOut l) (treeErr l)) := by
  cases ht : okW l with
  | false => simpa [treeOut, treeErr, ht] using r_tree_no v l w hv hn ht
  | true => simpa [treeOut, treeErr, ht] using r_tree_yes v l w hv hn ht

end Go.Proofs.YtcmagccfagijlaaGreat
