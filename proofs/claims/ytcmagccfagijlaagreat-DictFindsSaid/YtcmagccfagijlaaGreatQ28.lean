/-
  The law on finding dictionaries: its walk. (Printed by mkFc.py.)
-/
import Derived.Test.YtcmagccfagijlaaGreatQ22
import Derived.Test.YtcmagccfagijlaaGreatQ23
import Derived.Test.YtcmagccfagijlaaGreatQ26
import Derived.Test.YtcmagccfagijlaaGreatQ27
import Derived.Test.YtcmagccfagijlaaGreatQ5
namespace Go.Proofs.YtcmagccfagijlaaGreat
set_option linter.unusedVariables false
set_option linter.unusedSimpArgs false
set_option linter.unusedSectionVars false
open Go.RowKit

theorem Tryz.infoDict : (Tryz.prog.info? 32).map (fun i => (i.zero, i.size, i.bytes)) = some (some (.agg zeroC), 12, 176) := by kernel_rfl

theorem fstI_m1 {id : Int} {l : List Int} {i : Nat} (h : fstI id l i < 0) : fstI id l i = -1 := by
  induction l generalizing i with
  | nil => rfl
  | cons x l ih =>
    rw [fstI] at h ⊢
    split
    · next hx => rw [if_pos hx] at h; omega
    · next hx => rw [if_neg hx] at h; exact ih h

/-- append of one dictionary, just laid, to a slice of the call's own. -/
theorem wpList_appD1 {P : Program} {w : World} {ops : Array Oper} {rest : List Oper} {o : Oper} {a : Act} {Q : Exit → Act → World → Prop} (hg : o.guard = none) (s x : Operand) (t e : TypeId)
    (ho : o.op = .call { callee := .builtin .append, args := #[s, x], argTypes := #[t, t] })
    (base : Nat) (i : TypeInfo) (ht : P.underlying t = some (.slice e)) (hi : P.info? e = some i) (hz : i.zero = some (.agg zeroC)) (hsize : i.size = 12) (hby : i.bytes = 176)
    (v : Value) (n : Nat) (L : List Int) (y : Int) (B : Nat) (hs : a.eval s = v) (hx : a.eval x = .slice (some ⟨B, 0, none⟩) 1 1) (hB : w.heap.size = B)
    (hown : w.ownsRow base e 12 v n (cellsW rowD L)) (h63 : n ≤ 100000) (hbase : base ≤ w.heap.size)
    (h : ∀ a' c' w', w'.ownsRow base e 12 (.slice a' (n + 1) c') (n + 1) (cellsW rowD (L ++ [y])) → Keeps w w' (match v.ownBlock with | some g => [g] | none => []) → wpList P ops Q rest (a.put o.dst (.slice a' (n + 1) c')) w') :
    wpList P ops Q (o :: rest) a (w.alloc (.cells (dictC y nilV 0 nilV 0 nilV 0 nilV 0 0 0 nilV) e)) := by
  subst hB
  have r1 : RdD (w.alloc (.cells (dictC y nilV 0 nilV 0 nilV 0 nilV 0 0 0 nilV) e)) (.slice (some ⟨w.heap.size, 0, none⟩) 1 1) [y] := RdW.one (Blk.new w _ e) (fun j u hu => by
    have : (rowD y)[j]? = (dictC y nilV 0 nilV 0 nilV 0 nilV 0 0 0 nilV)[j]? := by simp [rowD]
    rw [← this]; exact hu)
  refine wpList_append_own _ hg s x t ho base _ i (.agg zeroC) 12 176 ht hi hz hsize hby rfl (by decide) v n (cellsW rowD L) hs (own_keeps hown ((Keeps.refl w []).alloc _)) _ 1 1 (cellsW rowD [y]) hx (by rw [cellsW_length rowD_len]; rfl) (r1.news rowD_len (by decide)) (cellsW_one rowD_len rowD_one (by decide) _) (by unfold maxLen; omega) (by omega) (by simp; omega) ?_
  intro v3 w3 h3 g3 _
  obtain ⟨a3, c3, rfl⟩ := own_form h3
  refine h a3 c3 w3 ?_ ?_
  · rw [cellsW_append rowD_len]
    exact h3
  · exact ((Keeps.refl w _).alloc _).trans (Keeps.of_grown g3 (fun k hk => by rw [hk]; simp)) (fun j hj _ => hj)

set_option maxRecDepth 100000 in
set_option maxHeartbeats 8000000 in
theorem law_finds (id : Int) (v : Value) (ids : List Int) (iA g1A g2A g3A aA bA cA iB g1B g2B g3B aB bB cB : Int) (tA n1A n2A n3A xA tB n1B n2B n3B xB : Value) (TA L1A L2A L3A XA TB L1B L2B L3B XB : List Int) (w : World) (hv : RdI .u32 w v ids) (htA : RdI .i64 w tA TA) (h1A : RdI .i64 w n1A L1A) (h2A : RdI .i64 w n2A L2A) (h3A : RdI .i64 w n3A L3A) (hxA : RdI .u8 w xA XA) (hbA : ∀ n ∈ XA, 0 ≤ n ∧ n ≤ 255) (htB : RdI .i64 w tB TB) (h1B : RdI .i64 w n1B L1B) (h2B : RdI .i64 w n2B L2B) (h3B : RdI .i64 w n3B L3B) (hxB : RdI .u8 w xB XB) (hbB : ∀ n ∈ XB, 0 ≤ n ∧ n ≤ 255) :
    Calls Tryz.prog 6 #[.int .u32 id, v, .agg (dictC iA tA g1A n1A g2A n2A g3A n3A aA bA cA xA), .agg (dictC iB tB g1B n1B g2B n2B g3B n3B aB bB cB xB)] w (LawEnd w) := by
  obtain ⟨i0, hi, hz0, hz1, hz2⟩ := info_parts Tryz.infoDict
  have HV := Lib.hid (fun w1 (k : Keeps w w1 []) => hv.keeps k)
  have HFA := Lib.hid (fun w1 (k : Keeps w w1 []) => few_any iA g1A g2A g3A aA bA cA _ _ _ _ _ TA L1A L2A L3A XA w1 (htA.keeps k) (h1A.keeps k) (h2A.keeps k) (h3A.keeps k) (hxA.keeps k))
  have HFB := Lib.hid (fun w1 (k : Keeps w w1 []) => few_any iB g1B g2B g3B aB bB cB _ _ _ _ _ TB L1B L2B L3B XB w1 (htB.keeps k) (h1B.keeps k) (h2B.keeps k) (h3B.keeps k) (hxB.keeps k))
  have HE : Hid (fewB TA L1A L2A L3A XA = true → fewB TB L1B L2B L3B XB = true → (∀ w1, Keeps w w1 [] → Calls Tryz.prog 27 #[.agg (dictC iA tA g1A n1A g2A n2A g3A n3A aA bA cA xA), .agg (dictC iB tB g1B n1B g2B n2B g3B n3B aB bB cB xB)] w1 fun e w' => e = .returned (.bool (decide (iA = iB ∧ TA = TB ∧ (g1A = g1B ∧ L1A = L1B) ∧ (g2A = g2B ∧ L2A = L2B) ∧ (g3A = g3B ∧ L3A = L3B) ∧ (aA = aB ∧ bA = bB ∧ cA = cB) ∧ XA = XB))) ∧ Keeps w1 w' []) ∧
      (∀ w1, Keeps w w1 [] → Calls Tryz.prog 15 #[.agg (dictC iA tA g1A n1A g2A n2A g3A n3A aA bA cA xA), .agg (dictC iB tB g1B n1B g2B n2B g3B n3B aB bB cB xB)] w1 fun e w' => e = .returned (.bool (decide (iA = iB ∧ TA = TB ∧ (g1A = g1B ∧ L1A = L1B) ∧ (g2A = g2B ∧ L2A = L2B) ∧ (g3A = g3B ∧ L3A = L3B) ∧ (aA = aB ∧ bA = bB ∧ cA = cB) ∧ XA = XB))) ∧ Keeps w1 w' []) ∧
      (∀ w1, Keeps w w1 [] → Calls Tryz.prog 19 #[.agg (dictC iA tA g1A n1A g2A n2A g3A n3A aA bA cA xA)] w1 fun e w' => ∃ u : Value, e = .returned u ∧ Keeps w1 w' [] ∧ ∀ w2, Keeps w' w2 [] → Calls Tryz.prog 27 #[.agg (dictC iA tA g1A n1A g2A n2A g3A n3A aA bA cA xA), u] w2 fun e w' => e = .returned (.bool true) ∧ Keeps w2 w' [])) := fun hA hB => by
    obtain ⟨l4, l0, l1, l2, l3⟩ := fewB_iff.1 hA
    obtain ⟨m4, m0, m1, m2, m3⟩ := fewB_iff.1 hB
    refine ⟨fun w1 k => dequal_any iA iB g1A g1B g2A g2B g3A g3B aA aB bA bB cA cB _ _ _ _ _ _ _ _ _ _ TA TB L1A L1B L2A L2B L3A L3B XA XB w1 (htA.keeps k) (htB.keeps k) (h1A.keeps k) (h1B.keeps k) (h2A.keeps k) (h2B.keeps k) (h3A.keeps k) (h3B.keeps k) (hxA.keeps k) (hxB.keeps k) (by omega) (by omega) (by omega) (by omega) (by omega) (by omega) (by omega) (by omega) hbA hbB, fun w1 k => dsame_any iA iB g1A g1B g2A g2B g3A g3B aA aB bA bB cA cB _ _ _ _ _ _ _ _ _ _ TA TB L1A L1B L2A L2B L3A L3B XA XB w1 (htA.keeps k) (htB.keeps k) (h1A.keeps k) (h1B.keeps k) (h2A.keeps k) (h2B.keeps k) (h3A.keeps k) (h3B.keeps k) (hxA.keeps k) (hxB.keeps k) (by omega) (by omega) (by omega) (by omega) (by omega) (by omega) (by omega) (by omega) hbA hbB, fun w1 k => ?_⟩
    refine (down_any iA g1A g2A g3A aA bA cA _ _ _ _ _ TA L1A L2A L3A XA w1 (htA.keeps k) (h1A.keeps k) (h2A.keeps k) (h3A.keeps k) (hxA.keeps k) (by omega) (by omega) (by omega) (by omega) (by omega)).mono ?_
    rintro e w2 ⟨t', n1', n2', n3', x', rfl, ⟨r0, r1, r2, r3, r4⟩, -, k2⟩
    refine ⟨_, rfl, k2, fun w3 k3 => ?_⟩
    have kk := (k.then k2).then k3
    refine (dequal_any iA iA g1A g1A g2A g2A g3A g3A aA aA bA bA cA cA _ _ _ _ _ _ _ _ _ _ TA TA L1A L1A L2A L2A L3A L3A XA XA w3 (htA.keeps kk) (r0.keeps k3) (h1A.keeps kk) (r1.keeps k3) (h2A.keeps kk) (r2.keeps k3) (h3A.keeps kk) (r3.keeps k3) (hxA.keeps kk) (r4.keeps k3) (by omega) (by omega) (by omega) (by omega) (by omega) (by omega) (by omega) (by omega) hbA hbA).mono ?_
    rintro e w4 ⟨rfl, k4⟩
    exact ⟨by simp, k4⟩
  obtain ⟨A0, n, cp0, rfl, hnl, -⟩ := hv.form
  obtain ⟨q0Aa, q0Am, q0Ac, rfl, -, -⟩ := htA.form
  obtain ⟨q1Aa, q1Am, q1Ac, rfl, -, -⟩ := h1A.form
  obtain ⟨q2Aa, q2Am, q2Ac, rfl, -, -⟩ := h2A.form
  obtain ⟨q3Aa, q3Am, q3Ac, rfl, -, -⟩ := h3A.form
  obtain ⟨q4Aa, q4Am, q4Ac, rfl, -, -⟩ := hxA.form
  obtain ⟨q0Ba, q0Bm, q0Bc, rfl, -, -⟩ := htB.form
  obtain ⟨q1Ba, q1Bm, q1Bc, rfl, -, -⟩ := h1B.form
  obtain ⟨q2Ba, q2Bm, q2Bc, rfl, -, -⟩ := h2B.form
  obtain ⟨q3Ba, q3Bm, q3Bc, rfl, -, -⟩ := h3B.form
  obtain ⟨q4Ba, q4Bm, q4Bc, rfl, -, -⟩ := hxB.form
  generalize fewB TA L1A L2A L3A XA = RA at *
  generalize fewB TB L1B L2B L3B XB = RB at *
  generalize decide (iA = iB ∧ TA = TB ∧ (g1A = g1B ∧ L1A = L1B) ∧ (g2A = g2B ∧ L2A = L2B) ∧ (g3A = g3B ∧ L3A = L3B) ∧ (aA = aB ∧ bA = bB ∧ cA = cB) ∧ XA = XB) = RR at *
  have HN := Lib.hid hnl
  clear hv hnl htA h1A h2A h3A hxA htB h1B h2B h3B hxB hbA hbB
  by_cases hbig : 20 < n
  · have h1 : (20 : Int) < (n : Int) := by omega
    clear HFA HFB HE HV
    go_enter Tryz.func6, Tryz.ntmps6
    go_wp2_with (go_at_call 11; refine (known_true _).mono ?_; rintro e w5 ⟨rfl, kk⟩)
    go_ret
    exact ⟨rfl, ((((Keeps.refl w []).alloc _).alloc _).then kk).below⟩
  have hd : decide ((20 : Int) < (n : Int)) = false := by simp; omega
  go_enter Tryz.func6, Tryz.ntmps6
  go_wp2_with fail
  have zA := (Blk.new w (dictC iA (.slice q0Aa q0Am q0Ac) g1A (.slice q1Aa q1Am q1Ac) g2A (.slice q2Aa q2Am q2Ac) g3A (.slice q3Aa q3Am q3Ac) aA bA cA (.slice q4Aa q4Am q4Ac)) 32).alloc (.cells (dictC iB (.slice q0Ba q0Bm q0Bc) g1B (.slice q1Ba q1Bm q1Bc) g2B (.slice q2Ba q2Bm q2Bc) g3B (.slice q3Ba q3Bm q3Bc) aB bB cB (.slice q4Ba q4Bm q4Bc)) 32)
  have zB := Blk.new (w.alloc (.cells (dictC iA (.slice q0Aa q0Am q0Ac) g1A (.slice q1Aa q1Am q1Ac) g2A (.slice q2Aa q2Am q2Ac) g3A (.slice q3Aa q3Am q3Ac) aA bA cA (.slice q4Aa q4Am q4Ac)) 32)) (dictC iB (.slice q0Ba q0Bm q0Bc) g1B (.slice q1Ba q1Bm q1Bc) g2B (.slice q2Ba q2Bm q2Bc) g3B (.slice q3Ba q3Bm q3Bc) aB bB cB (.slice q4Ba q4Bm q4Bc)) 32
  have zk : Keeps w ((w.alloc (.cells (dictC iA (.slice q0Aa q0Am q0Ac) g1A (.slice q1Aa q1Am q1Ac) g2A (.slice q2Aa q2Am q2Ac) g3A (.slice q3Aa q3Am q3Ac) aA bA cA (.slice q4Aa q4Am q4Ac)) 32)).alloc (.cells (dictC iB (.slice q0Ba q0Bm q0Bc) g1B (.slice q1Ba q1Bm q1Bc) g2B (.slice q2Ba q2Bm q2Bc) g3B (.slice q3Ba q3Bm q3Bc) aB bB cB (.slice q4Ba q4Bm q4Bc)) 32)) [] := ((Keeps.refl w []).alloc _).alloc _
  simp only [World.size_alloc] at zB
  generalize ((w.alloc (.cells (dictC iA (.slice q0Aa q0Am q0Ac) g1A (.slice q1Aa q1Am q1Ac) g2A (.slice q2Aa q2Am q2Ac) g3A (.slice q3Aa q3Am q3Ac) aA bA cA (.slice q4Aa q4Am q4Ac)) 32)).alloc (.cells (dictC iB (.slice q0Ba q0Bm q0Bc) g1B (.slice q1Ba q1Bm q1Bc) g2B (.slice q2Ba q2Bm q2Bc) g3B (.slice q3Ba q3Bm q3Bc) aB bB cB (.slice q4Ba q4Bm q4Bc)) 32)) = W0 at *
  refine (HFA.out _ zk).mono ?_
  rintro e w1 ⟨rfl, kk⟩
  replace zA := zA.keeps kk (by simp)
  replace zB := zB.keeps kk (by simp)
  replace zk := zk.then kk
  clear kk HFA W0
  obtain ⟨q0, q1, q2, q3, q4, q5, q6, q7, q8, q9, qa, qb⟩ := dict_cells zB
  cases RA
  · go_wp2_with (go_at_call 11; refine (known_true _).mono ?_; rintro e w5 ⟨rfl, kk⟩)
    go_ret
    exact ⟨rfl, (zk.then kk).below⟩
  go_wp2_with fail
  refine (HFB.out _ zk).mono ?_
  rintro e w2 ⟨rfl, kk⟩
  replace zA := zA.keeps kk (by simp)
  replace zB := zB.keeps kk (by simp)
  replace zk := zk.then kk
  clear kk HFB w1 q0 q1 q2 q3 q4 q5 q6 q7 q8 q9 qa qb
  cases RB
  · clear zA zB
    go_wp2_with (go_at_call 11; refine (known_true _).mono ?_; rintro e w5 ⟨rfl, kk⟩)
    go_ret
    exact ⟨rfl, (zk.then kk).below⟩
  obtain ⟨HEQ0, HSM0, HOW0⟩ := HE.out (by simp) (by simp)
  have HEQ := Lib.hid HEQ0
  have HSM := Lib.hid HSM0
  have HOW := Lib.hid HOW0
  clear HE HEQ0 HSM0 HOW0
  have ZA := Lib.hid zA
  have ZB := Lib.hid zB
  clear zA zB
  have hn20 : n ≤ 20 := by omega
  go_wp2_with fail
  go_loopw [9, 10, 11] (fun s9 s10 s11 wr => ∃ (k : Nat) (a' : Option Addr) (c' : Nat), k ≤ n ∧ s9 = .slice a' k c' ∧ s10 = .int .i64 (fstI id (ids.take k) 0) ∧ s11 = .int .i64 k ∧ Hid (wr.ownsRow w2.heap.size 32 12 (.slice a' k c') k (cellsW rowD (ids.take k))) ∧ Keeps w2 wr []) (fun _ _ s11 _ => n - (intOf s11).toNat)
  case atStart => exact ⟨0, none, 0, Nat.zero_le _, rfl, rfl, rfl, World.ownsRow_nil _ _ _ _, Keeps.refl _ _⟩
  case round =>
    obtain ⟨k, a', c', hk, rfl, rfl, rfl, hown, kk⟩ := hrel
    by_cases hlt : k < n
    · obtain ⟨x, hx⟩ : ∃ x, ids[k]? = some x := ⟨_, List.getElem?_eq_getElem (by have := HN.out; omega)⟩
      obtain ⟨bb, o, rfl, hbb, hc⟩ := (HV.out _ (zk.then kk)).at hx
      have hcap := (HV.out _ (zk.then kk)).cap
      have hkn : (k : Int) < (n : Int) := by omega
      have hk0 : (0 : Int) ≤ (k : Int) := Int.natCast_nonneg _
      have HT := Lib.hid (fstI_take (id := id) hx)
      have HX := Lib.hid (take_next hx)
      have HXg := Lib.hid hx
      have hM := fstI_m1 (id := id) (l := ids.take k) (i := 0)
      clear hx
      generalize hF : fstI id (ids.take k) 0 = F at *
      have hsz := kk.size
      have HHV := Lib.hid (fun w3 (k3 : Keeps w2 w3 []) => ((HV.out _ (zk.then k3))))
      have hcase : (decide (F < 0) = true ∧ (x == id) = true ∧ fstI id (ids.take (k + 1)) 0 = k) ∨ (decide (F < 0) = true ∧ (x == id) = false ∧ fstI id (ids.take (k + 1)) 0 = F) ∨ (decide (F < 0) = false ∧ fstI id (ids.take (k + 1)) 0 = F) := by
        rw [HT.out]
        by_cases h1 : F < 0
        · by_cases h2 : x = id
          · exact .inl ⟨by simpa using h1, by simpa using h2, by simp [h1, h2]⟩
          · exact .inr (.inl ⟨by simpa using h1, by simpa using h2, by rw [if_pos h1, if_neg h2]; exact (hM h1).symm⟩)
        · exact .inr (.inr ⟨by simpa using h1, by rw [if_neg h1]⟩)
      clear HT hM hF
      rcases hcase with ⟨gF, gx, HF0⟩ | ⟨gF, gx, HF0⟩ | ⟨gF, HF0⟩
      all_goals
        have HF := Lib.hid HF0
        clear HF0
        go_wp2_with (at_builtin; go_loud (refine wpList_appD1 (w := wr) rfl _ _ 48 32 rfl w2.heap.size i0 Tryz.underlying48 hi hz0 hz1 hz2 (.slice a' k c') k (ids.take k) x _ rfl rfl rfl hown.out (by omega) hsz ?_; intro a3 c3 w3 own3 k3; have kk3 := keeps_row kk k3 (fun g hg => (hown.out.lt g hg).1); have hcc := (HHV.out _ kk3).at HXg.out; obtain ⟨b5, o5, e5, hbb5, hc5⟩ := hcc; cases e5; clear hc hbb))
        rw [← HX.out] at own3
        go_roundw
        case rel => exact ⟨k + 1, a3, c3, by omega, rfl, by rw [HF.out], by go_num, own3, kk3⟩
        case measure => simp [intOf]; omega
    · have : k = n := by omega
      subst this
      have hE : ids.take k = ids := List.take_of_length_le (by have := HN.out; omega)
      rw [hE] at hown ⊢
      have hRd : RdD wr (.slice a' k c') ids := ownW_reads rowD_len (by rw [← HN.out]; exact hown.out)
      have HFI := Lib.hid (fun w1 (k1 : Keeps wr w1 []) => find_any id (.slice a' k c') ids w1 (hRd.keep k1) (by have := HN.out; omega))
      have zA := ZA.out.keeps kk (by simp)
      have zB := ZB.out.keeps kk (by simp)
      have k0 := zk.then kk
      clear hRd hown hE ZA ZB zk kk HN
      generalize fstI id ids 0 = F at *
      go_wp2_with fail
      refine wp_region_held_drew (S := (fun w' => Blk w' w.heap.size (dictC iA (.slice q0Aa q0Am q0Ac) g1A (.slice q1Aa q1Am q1Ac) g2A (.slice q2Aa q2Am q2Ac) g3A (.slice q3Aa q3Am q3Ac) aA bA cA (.slice q4Aa q4Am q4Ac)) 32 ∧ Blk w' (w.heap.size + 1) (dictC iB (.slice q0Ba q0Bm q0Bc) g1B (.slice q1Ba q1Bm q1Bc) g2B (.slice q2Ba q2Bm q2Bc) g3B (.slice q3Ba q3Bm q3Bc) aB bB cB (.slice q4Ba q4Bm q4Bc)) 32 ∧ Keeps wr w' [])) (by kernel_rfl) ⟨zA.drew, zB.drew, (Keeps.refl wr []).drew⟩ (fun hHeld => ?_)
      refine takeL (i := 0) (v := ?_) rfl (by kernel_rfl) (by kernel_rfl) (by kernel_rfl) (fun _ _ _ h => h) (by rfl) ?_ (by assumption) ?_
      rotate_left
      · (intro w9 hSw; clear hSw; go_simp; (try with_reducible rfl))
      try simp only [Act.put, List.setIfInBounds_toArray, List.set_cons_zero, List.set_cons_succ]
      refine takeL (i := 1) (v := ?_) rfl (by kernel_rfl) (by kernel_rfl) (by kernel_rfl) (fun _ _ _ h => h) (by rfl) ?_ (by assumption) ?_
      rotate_left
      · (intro w9 hSw; clear hSw; go_simp; (try with_reducible rfl))
      try simp only [Act.put, List.setIfInBounds_toArray, List.set_cons_zero, List.set_cons_succ]
      refine takeL (i := 3) (v := ?_) rfl (by kernel_rfl) (by kernel_rfl) (by kernel_rfl) (fun _ _ _ h => h) (by rfl) ?_ (by assumption) ?_
      rotate_left
      · (intro w9 hSw; clear hSw; go_simp; (try with_reducible rfl))
      try simp only [Act.put, List.setIfInBounds_toArray, List.set_cons_zero, List.set_cons_succ]
      refine callL (i := 2) rfl (by kernel_rfl) (fun Kont hK => ?_)
      go_simp
      refine (HFI.out _ hHeld.2.2).mono ?_; rintro e w3 ⟨rfl, kk⟩
      go_wp2_with fail
      refine hK.out _ _ ?_ (fun hHeld => ?_)
      · (exact ⟨hHeld.1.keeps kk (by simp), hHeld.2.1.keeps kk (by simp), hHeld.2.2.then kk⟩)
      clear hK Kont
      refine takeL (i := 4) (v := ?_) rfl (by kernel_rfl) (by kernel_rfl) (by kernel_rfl) (fun _ _ _ h => h) (by rfl) ?_ (by assumption) ?_
      rotate_left
      · (intro w9 hSw; clear hSw; go_simp; (try with_reducible rfl))
      try simp only [Act.put, List.setIfInBounds_toArray, List.set_cons_zero, List.set_cons_succ]
      refine takeL (i := 5) (v := ?_) rfl (by kernel_rfl) (by kernel_rfl) (by kernel_rfl) (fun _ _ _ h => h) (by rfl) ?_ (by assumption) ?_
      rotate_left
      · (intro w9 hSw; clear hSw; go_simp; (try with_reducible rfl))
      try simp only [Act.put, List.setIfInBounds_toArray, List.set_cons_zero, List.set_cons_succ]
      refine takeL (i := 6) (v := ?_) rfl (by kernel_rfl) (by kernel_rfl) (by kernel_rfl) (fun _ _ _ h => h) (by rfl) ?_ (by assumption) ?_
      rotate_left
      · (intro w9 hSw; obtain ⟨q0, q1, q2, q3, q4, q5, q6, q7, q8, q9, qa, qb⟩ := dict_cells hSw.1; clear hSw; go_simp; (try with_reducible rfl))
      try simp only [Act.put, List.setIfInBounds_toArray, List.set_cons_zero, List.set_cons_succ]
      refine takeL (i := 7) (v := ?_) rfl (by kernel_rfl) (by kernel_rfl) (by kernel_rfl) (fun _ _ _ h => h) (by rfl) ?_ (by assumption) ?_
      rotate_left
      · (intro w9 hSw; obtain ⟨q0, q1, q2, q3, q4, q5, q6, q7, q8, q9, qa, qb⟩ := dict_cells hSw.2.1; clear hSw; go_simp; (try with_reducible rfl))
      try simp only [Act.put, List.setIfInBounds_toArray, List.set_cons_zero, List.set_cons_succ]
      refine takeL (i := 9) (v := ?_) rfl (by kernel_rfl) (by kernel_rfl) (by kernel_rfl) (fun _ _ _ h => h) (by rfl) ?_ (by assumption) ?_
      rotate_left
      · (intro w9 hSw; obtain ⟨q0, q1, q2, q3, q4, q5, q6, q7, q8, q9, qa, qb⟩ := dict_cells hSw.1; clear hSw; go_simp; (try with_reducible rfl))
      try simp only [Act.put, List.setIfInBounds_toArray, List.set_cons_zero, List.set_cons_succ]
      refine takeL (i := 10) (v := ?_) rfl (by kernel_rfl) (by kernel_rfl) (by kernel_rfl) (fun _ _ _ h => h) (by rfl) ?_ (by assumption) ?_
      rotate_left
      · (intro w9 hSw; obtain ⟨q0, q1, q2, q3, q4, q5, q6, q7, q8, q9, qa, qb⟩ := dict_cells hSw.2.1; clear hSw; go_simp; (try with_reducible rfl))
      try simp only [Act.put, List.setIfInBounds_toArray, List.set_cons_zero, List.set_cons_succ]
      refine callL (i := 8) rfl (by kernel_rfl) (fun Kont hK => ?_)
      go_simp
      refine (HEQ.out _ (k0.then hHeld.2.2)).mono ?_; rintro e w4 ⟨rfl, kk⟩
      go_wp2_with fail
      refine hK.out _ _ ?_ (fun hHeld => ?_)
      · (exact ⟨hHeld.1.keeps kk (by simp), hHeld.2.1.keeps kk (by simp), hHeld.2.2.then kk⟩)
      clear hK Kont
      refine callL (i := 11) rfl (by kernel_rfl) (fun Kont hK => ?_)
      go_simp
      refine (HSM.out _ (k0.then hHeld.2.2)).mono ?_; rintro e w5 ⟨rfl, kk⟩
      go_wp2_with fail
      refine hK.out _ _ ?_ (fun hHeld => ?_)
      · (exact ⟨hHeld.1.keeps kk (by simp), hHeld.2.1.keeps kk (by simp), hHeld.2.2.then kk⟩)
      clear hK Kont
      refine takeL (i := 12) (v := ?_) rfl (by kernel_rfl) (by kernel_rfl) (by kernel_rfl) (fun _ _ _ h => h) (by rfl) ?_ (by assumption) ?_
      rotate_left
      · (intro w9 hSw; clear hSw; go_simp; (try with_reducible rfl))
      try simp only [Act.put, List.setIfInBounds_toArray, List.set_cons_zero, List.set_cons_succ]
      refine takeL (i := 13) (v := ?_) rfl (by kernel_rfl) (by kernel_rfl) (by kernel_rfl) (fun _ _ _ h => h) (by rfl) ?_ (by assumption) ?_
      rotate_left
      · (intro w9 hSw; clear hSw; go_simp; (try with_reducible rfl))
      try simp only [Act.put, List.setIfInBounds_toArray, List.set_cons_zero, List.set_cons_succ]
      refine takeL (i := 14) (v := ?_) rfl (by kernel_rfl) (by kernel_rfl) (by kernel_rfl) (fun _ _ _ h => h) (by rfl) ?_ (by assumption) ?_
      rotate_left
      · (intro w9 hSw; clear hSw; go_simp; (try with_reducible rfl))
      try simp only [Act.put, List.setIfInBounds_toArray, List.set_cons_zero, List.set_cons_succ]
      refine takeL (i := 15) (v := ?_) rfl (by kernel_rfl) (by kernel_rfl) (by kernel_rfl) (fun _ _ _ h => h) (by rfl) ?_ (by assumption) ?_
      rotate_left
      · (intro w9 hSw; obtain ⟨q0, q1, q2, q3, q4, q5, q6, q7, q8, q9, qa, qb⟩ := dict_cells hSw.1; clear hSw; go_simp; (try with_reducible rfl))
      try simp only [Act.put, List.setIfInBounds_toArray, List.set_cons_zero, List.set_cons_succ]
      refine takeL (i := 16) (v := ?_) rfl (by kernel_rfl) (by kernel_rfl) (by kernel_rfl) (fun _ _ _ h => h) (by rfl) ?_ (by assumption) ?_
      rotate_left
      · (intro w9 hSw; obtain ⟨q0, q1, q2, q3, q4, q5, q6, q7, q8, q9, qa, qb⟩ := dict_cells hSw.1; clear hSw; go_simp; (try with_reducible rfl))
      try simp only [Act.put, List.setIfInBounds_toArray, List.set_cons_zero, List.set_cons_succ]
      refine callL (i := 17) rfl (by kernel_rfl) (fun Kont hK => ?_)
      go_simp
      refine (HOW.out _ (k0.then hHeld.2.2)).mono ?_; rintro e w6 ⟨uu, rfl, kk, HOE⟩; replace HOE := Lib.hid HOE
      go_wp2_with fail
      refine hK.out _ _ ?_ (fun hHeld => ?_)
      · (exact ⟨hHeld.1.keeps kk (by simp), hHeld.2.1.keeps kk (by simp), hHeld.2.2.then kk⟩)
      clear hK Kont
      refine callL (i := 18) rfl (by kernel_rfl) (fun Kont hK => ?_)
      go_simp
      refine (HOE.out _ (Keeps.refl _ _)).mono ?_; rintro e w7 ⟨rfl, kk⟩
      go_wp2_with fail
      refine hK.out _ _ ?_ (fun hHeld => ?_)
      · (exact ⟨hHeld.1.keeps kk (by simp), hHeld.2.1.keeps kk (by simp), hHeld.2.2.then kk⟩)
      clear hK Kont
      refine takeL (i := 19) (v := ?_) rfl (by kernel_rfl) (by kernel_rfl) (by kernel_rfl) (fun _ _ _ h => h) (by rfl) ?_ (by assumption) ?_
      rotate_left
      · (intro w9 hSw; clear hSw; go_simp; (try with_reducible rfl))
      try simp only [Act.put, List.setIfInBounds_toArray, List.set_cons_zero, List.set_cons_succ]
      refine takeL (i := 20) (v := ?_) rfl (by kernel_rfl) (by kernel_rfl) (by kernel_rfl) (fun _ _ _ h => h) (by rfl) ?_ (by assumption) ?_
      rotate_left
      · (intro w9 hSw; clear hSw; go_simp; (try with_reducible rfl))
      try simp only [Act.put, List.setIfInBounds_toArray, List.set_cons_zero, List.set_cons_succ]
      refine callL (i := 21) rfl (by kernel_rfl) (fun Kont hK => ?_)
      go_simp
      refine (known_true _).mono ?_; rintro e w8 ⟨rfl, kk⟩
      go_wp2_with fail
      refine hK.out _ _ ?_ (fun hHeld => ?_)
      · (exact ⟨hHeld.1.keeps kk (by simp), hHeld.2.1.keeps kk (by simp), hHeld.2.2.then kk⟩)
      clear hK Kont
      refine takeL (i := 22) (v := ?_) rfl (by kernel_rfl) (by kernel_rfl) (by kernel_rfl) (fun _ _ _ h => h) (by rfl) ?_ (by assumption) ?_
      rotate_left
      · (intro w9 hSw; clear hSw; go_simp; (try with_reducible rfl))
      try simp only [Act.put, List.setIfInBounds_toArray, List.set_cons_zero, List.set_cons_succ]
      refine takeL (i := 23) (v := ?_) rfl (by kernel_rfl) (by kernel_rfl) (by kernel_rfl) (fun _ _ _ h => h) (by rfl) ?_ (by assumption) ?_
      rotate_left
      · (intro w9 hSw; clear hSw; go_simp; (try with_reducible rfl))
      try simp only [Act.put, List.setIfInBounds_toArray, List.set_cons_zero, List.set_cons_succ]
      refine wpAnyH_done (by kernel_rfl) ?_ _
      go_wp2_with fail
      go_ret
      exact ⟨rfl, (k0.then hHeld.2.2).below⟩


end Go.Proofs.YtcmagccfagijlaaGreat
