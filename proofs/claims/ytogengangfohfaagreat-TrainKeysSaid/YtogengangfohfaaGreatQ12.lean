/-
  Walks over package train: known, worth.
-/
import Derived.Test.YtogengangfohfaaGreatQ11
namespace Go.Proofs.YtogengangfohfaaGreat
set_option linter.unusedVariables false
set_option linter.unusedSimpArgs false
set_option linter.unusedSectionVars false
open Go.RowKit

/-- The frequencies of the keys of l, with the keys ks of a further sample. -/
def knownG (l : List (List Int)) (ks : List (List Int)) : List Int → Option Int := fun q => if cntL l q + (if q ∈ ks then 1 else 0) = 0 then none else some ((cntL l q + (if q ∈ ks then 1 else 0) : Nat) : Int)
def knownF (l : List (List Int)) : List Int → Option Int := knownG l []
theorem knownG_get (l ks : List (List Int)) (q : List Int) : (knownG l ks q).getD 0 = ((cntL l q + (if q ∈ ks then 1 else 0) : Nat) : Int) := by
  unfold knownG
  by_cases h : cntL l q + (if q ∈ ks then 1 else 0) = 0
  · rw [if_pos h, h]; rfl
  · rw [if_neg h]; rfl
theorem knownF_get (l : List (List Int)) (q : List Int) : (knownF l q).getD 0 = (cntL l q : Int) := by
  unfold knownF; rw [knownG_get]; simp
theorem knownG_step {l ks : List (List Int)} {k : List Int} (h : k ∉ ks) : upd (knownG l ks) k ((knownG l ks k).getD 0 + 1) = knownG l (ks ++ [k]) := by
  funext r
  rw [knownG_get]
  simp only [upd, knownG, List.mem_append, List.mem_singleton]
  by_cases e : r = k
  · subst e; simp [h]
  · simp [e]
theorem knownG_all (l : List (List Int)) (b : List Int) : knownG l (keysL b) = knownF (l ++ [b]) := by
  funext r
  simp only [knownF, knownG, cnt_snoc, mem_keys]
  simp
theorem knownF_nil : knownF [] = fun _ => none := by funext r; simp [knownF, knownG, cntL]
theorem keys_wf {b : List Int} (hb : ∀ x ∈ b, 0 ≤ x ∧ x ≤ 255) {k : List Int} (h : k ∈ keysL b) : KeyWf k := win_wf hb (mem_keys.1 h)
theorem nodup_at {l : List (List Int)} (h : l.Nodup) {j : Nat} {k : List Int} (hk : l[j]? = some k) : k ∉ l.take j := by
  intro hm
  obtain ⟨i, hi⟩ := List.mem_iff_getElem?.1 hm
  rw [List.getElem?_take] at hi
  split at hi
  · rename_i hlt
    obtain ⟨h1, e1⟩ := List.getElem?_eq_some_iff.1 hi
    obtain ⟨h2, e2⟩ := List.getElem?_eq_some_iff.1 hk
    exact (List.pairwise_iff_getElem.1 h) i j h1 h2 hlt (e1.trans e2.symm)
  · cases hi

set_option maxRecDepth 100000 in
set_option maxHeartbeats 2000000 in
theorem worth_any (v : Value) (b : List Int) (m n : Nat) (f : List Int → Option Int) (c : List Int → Nat) (but : List (List Int)) (w : World) (hv : RdI .u8 w v b) (hb : ∀ x ∈ b, 0 ≤ x ∧ x ≤ 255) (hl : b.length ≤ 1000000)
    (hm : MapS w m n f) (hf : ∀ q, (f q).getD 0 = if q ∈ but then 0 else (c q : Int)) (hc : ∀ q, c q ≤ 1024) :
    Calls Tryz.prog 44 #[v, .map (some m)] w fun e w' => e = .returned (.int .i64 (wkL c but b : Nat)) ∧ Keeps w w' [] := by
  have HK := Lib.hid (keys_any v b w hv hb hl)
  have HW := Lib.hid (fun k (h : k ∈ keysL b) => keys_wf hb h)
  have hkl := keys_len b
  obtain ⟨A0, n0, cp0, rfl, -⟩ := hv.form
  have HM := Lib.hid hm
  have HF := Lib.hid hf
  have HC := Lib.hid hc
  have HE : Hid (wkL c but b = sumK c but (keysL b)) := rfl
  clear hv hb hm hf hc
  go_enter Tryz.func44, Tryz.ntmps44
  go_wp2_with fail
  refine HK.out.mono ?_
  rintro e w1 ⟨v1, rfl, own1, k1⟩
  have HS := Lib.hid own1.reads
  obtain ⟨a1, c1, rfl⟩ := own_form own1
  clear own1
  clear HK
  generalize keysL b = ks at *
  have hks : ks.length ≤ 1000000 := by omega
  go_wp2_with fail
  go_loopw [4, 10] (fun s4 s10 wr => ∃ j : Nat, j ≤ ks.length ∧ s10 = .int .i64 j ∧ s4 = .int .i64 (sumK c but (ks.take j) : Nat) ∧ wr = w1) (fun _ s10 _ => ks.length - (intOf s10).toNat)
  case atStart => exact ⟨0, Nat.zero_le _, rfl, rfl, rfl⟩
  case round =>
    obtain ⟨j, hj, rfl, rfl, rfl⟩ := hrel
    by_cases hlt : j < ks.length
    · obtain ⟨k, hk⟩ : ∃ k, ks[j]? = some k := ⟨_, List.getElem?_eq_getElem hlt⟩
      obtain ⟨bb, oo, rfl, hbb, hcc⟩ := HS.out.at hk
      have hjj : (j : Int) < (ks.length : Int) := by omega
      have hcap := RdW.cap HS.out
      have hlook := (HM.out.keeps k1 (by simp)).look (HW.out k (List.mem_of_getElem? hk))
      have hs : Hid (sumK c but (ks.take (j + 1)) = sumK c but (ks.take j) + oneW c but k) := by show _ = _; rw [List.take_add_one, hk]; exact sumK_snoc _ _ _ _
      have hbd := sumK_le (c := c) (but := but) HC.out (ks.take j)
      have htl : (ks.take j).length ≤ 1000000 := by have := List.length_take_le j ks; omega
      have hbd2 : sumK c but (ks.take j) ≤ 1024000000 := by omega
      have hX0 := HF.out k
      obtain ⟨X, hX⟩ : ∃ X : Int, X = (f k).getD 0 := ⟨_, rfl⟩
      rw [← hX] at hlook hX0
      have hXc := HC.out k
      have hX1 : 0 ≤ X ∧ X ≤ 1024 := by rw [hX0]; split <;> omega
      have hone : Hid ((oneW c but k : Nat) = if (0 : Int) < X - 1 then X - 1 else 0) := by
        show _ = _
        rw [hX0]
        unfold oneW
        split
        · simp
        · split <;> omega
      obtain ⟨hX2, hX3⟩ := hX1
      generalize hSS : sumK c but (ks.take j) = SS at *
      clear hX hX0 hXc hbd hk hSS htl
      by_cases h1 : (0 : Int) < X - 1
      · have hone' : Hid ((oneW c but k : Nat) = X - 1) := by show _ = _; rw [hone.out, if_pos h1]
        clear hone
        go_wp2_with fail
        go_roundw
        case rel => exact ⟨j + 1, by omega, by go_num, by rw [hs.out]; have := hone'.out; go_num, by first | rfl | trivial⟩
        case measure => simp [intOf]; omega
      · have hone' : Hid ((oneW c but k : Nat) = (0 : Int)) := by show _ = _; rw [hone.out, if_neg h1]
        have h2 : decide ((0 : Int) < X - 1) = false := decide_eq_false h1
        clear hone
        go_wp2_with fail
        go_roundw
        case rel => exact ⟨j + 1, by omega, by go_num, by rw [hs.out]; have := hone'.out; go_num, by first | rfl | trivial⟩
        case measure => simp [intOf]; omega
    · have hjj : decide ((j : Int) < (ks.length : Int)) = false := decide_eq_false (by omega)
      have hall : ks.take j = ks := List.take_of_length_le (by omega)
      rw [hall]
      clear hall
      go_wp2_with fail
      go_ret
      exact ⟨by rw [HE.out]; rfl, k1⟩

set_option maxRecDepth 100000 in
set_option maxHeartbeats 2000000 in
theorem known_any (v : Value) (l : List (List Int)) (w : World) (hv : RdL .u8 w v l) (hb : ∀ b ∈ l, ∀ x ∈ b, 0 ≤ x ∧ x ≤ 255) (hl : l.length ≤ 1024) (hbl : ∀ b ∈ l, b.length ≤ 131072) :
    Calls Tryz.prog 39 #[v] w fun e w' => e = .returned (.map (some w.heap.size)) ∧ (∃ n, n ≤ 134217728 ∧ MapS w' w.heap.size n (knownF l)) ∧ Keeps w w' [] := by
  obtain ⟨A0, n0, cp0, rfl, hn0, -⟩ := hv.form
  have HV := Lib.hid hv
  have HB := Lib.hid hb
  have HBL := Lib.hid hbl
  have HN := Lib.hid hn0
  have hn1 : n0 ≤ 1024 := by omega
  have hmm := @run_makeMap Tryz.prog
  clear hv hb hbl hn0 hl
  go_enter Tryz.func39, Tryz.ntmps39
  go_wp2_with fail
  clear hmm
  have m0 := MapS.made w
  rw [← knownF_nil] at m0
  have k0 := (Keeps.refl w []).alloc (.map #[] 0)
  generalize w.alloc (.map #[] 0) = W0 at *
  go_loopw [11] (fun s11 wr => ∃ i : Nat, i ≤ n0 ∧ s11 = .int .i64 i ∧ (∃ n, n ≤ i * 131072 ∧ MapS wr w.heap.size n (knownF (l.take i))) ∧ Keeps w wr []) (fun s11 _ => n0 - (intOf s11).toNat)
  case atStart => exact ⟨0, Nat.zero_le _, rfl, ⟨0, Nat.zero_le _, m0⟩, k0⟩
  case round =>
    obtain ⟨i, hi, rfl, ⟨n, hn, mp⟩, kk⟩ := hrel
    by_cases hlt : i < n0
    · obtain ⟨b, hb⟩ : ∃ b, l[i]? = some b := ⟨_, List.getElem?_eq_getElem (by have := HN.out; omega)⟩
      obtain ⟨bb, oo, vi, rfl, hbb, hcc, hri, hcap⟩ := (HV.out.keeps kk).at hb
      have hii : (i : Int) < (n0 : Int) := by omega
      have hbm := List.mem_of_getElem? hb
      have hbl := HBL.out b hbm
      have HK := Lib.hid (keys_any vi b wr hri (HB.out b hbm) (by omega))
      have HW := Lib.hid (fun k (h : k ∈ keysL b) => keys_wf (HB.out b hbm) h)
      have hkl := keys_len b
      have hnd := ded_nodup (wins b)
      have hst : Hid (knownG (l.take i) (keysL b) = knownF (l.take (i + 1))) := by show _ = _; rw [knownG_all, List.take_add_one, hb]; rfl
      obtain ⟨a2, n2, c2, rfl, -⟩ := hri.form
      have HND : Hid ((keysL b).Nodup) := hnd
      have mp0 : MapS wr w.heap.size n (knownG (l.take i) []) := mp
      have hlt0 := mp.lt
      clear hb hbm hri hnd mp
      go_wp2_with fail
      refine HK.out.mono ?_
      rintro e w1 ⟨v1, rfl, own1, k1⟩
      have HS := Lib.hid own1.reads
      obtain ⟨a1, c1, rfl⟩ := own_form own1
      have HSEP : Hid (∀ bb oo, a1 = some ⟨bb, oo, none⟩ → bb ≠ w.heap.size) := fun bb oo e => by
        subst e
        have := (World.ownsRow.lt own1 bb rfl).1
        omega
      clear own1
      have mp1 := mp0.keeps k1 (by simp)
      have kk1 := kk.trans k1 (by simp)
      clear HK mp0 kk k1
      have hL1 := hlt0
      generalize keysL b = ks at *
      have hks : ks.length ≤ 131072 := by omega
      go_wp2_with fail
      go_loopw [18] (fun s18 wx => ∃ j : Nat, j ≤ ks.length ∧ s18 = .int .i64 j ∧ MapS wx w.heap.size (n + j) (knownG (l.take i) (ks.take j)) ∧ RdS wx (.slice a1 ks.length c1) ks ∧ Keeps w wx []) (fun s18 _ => ks.length - (intOf s18).toNat)
      case atStart => exact ⟨0, Nat.zero_le _, rfl, mp1, HS.out, kk1⟩
      case round =>
        obtain ⟨j, hj, rfl, mp, rd, kk⟩ := hrel
        by_cases hlt : j < ks.length
        · obtain ⟨k, hk⟩ : ∃ k, ks[j]? = some k := ⟨_, List.getElem?_eq_getElem hlt⟩
          obtain ⟨bb, oo, rfl, hbb, hcc⟩ := rd.at hk
          have hjj : (j : Int) < (ks.length : Int) := by omega
          have hcap := RdW.cap rd
          have hwf := HW.out k (List.mem_of_getElem? hk)
          have hlook := mp.look hwf
          have hg := knownG_get (l.take i) (ks.take j) k
          have hnm := nodup_at HND.out hk
          have hc1 := cnt_le (l.take i) k
          have hc2 := List.length_take_le i l
          have hst2 := knownG_step (l := l.take i) hnm
          rw [if_neg hnm, Nat.add_zero] at hg
          obtain ⟨C, hC⟩ : ∃ C, C = cntL (l.take i) k := ⟨_, rfl⟩
          rw [hg, ← hC] at hst2 hlook
          rw [← hC] at hc1
          have hks1 : ks.take (j + 1) = ks.take j ++ [k] := by rw [List.take_add_one, hk]; rfl
          rw [← hks1] at hst2
          obtain ⟨w2, hu1, mp2, g2⟩ := mp.update hwf ((C : Int) + 1) (WalkArith.wf_i64 (by omega)) (by unfold maxLen; omega)
          rw [hst2] at mp2
          have k2 : Keeps wr w2 [w.heap.size] := Keeps.of_grown g2 (fun k hk => by cases hk; simp)
          have hlt1 := mp.lt
          have kk2 : Keeps w w2 [] := kk.trans k2 (fun j hj hl => by have := List.mem_singleton.1 hj; omega)
          have hcb : bb ≠ w.heap.size := HSEP.out bb oo rfl
          have rd2 : RdS w2 (.slice (some ⟨bb, oo, none⟩) ks.length c1) ks := RdW.keeps rd k2 (fun ad n cp he _ hm => by cases he; exact hcb (List.mem_singleton.1 hm))
          have hc3 : C ≤ 1024 := by omega
          have H2 := Lib.hid mp2
          have H3 := Lib.hid rd2
          have H4 := Lib.hid kk2
          clear hg hnm hst2 hC hks1 mp2 rd2 kk2 mp g2 k2 hk
          go_wp2_with fail
          go_roundw
          case rel => exact ⟨j + 1, by omega, by go_num, H2.out, H3.out, H4.out⟩
          case measure => simp [intOf]; omega
        · have hjj : decide ((j : Int) < (ks.length : Int)) = false := decide_eq_false (by omega)
          have hjk : j = ks.length := by omega
          have hall : ks.take j = ks := List.take_of_length_le (by omega)
          rw [hall, hst.out] at mp
          have H2 := Lib.hid mp
          clear hall mp
          go_wp2_with fail
          go_roundw
          case rel => exact ⟨i + 1, by omega, by go_num, ⟨n + j, by omega, H2.out⟩, kk⟩
          case measure => simp [intOf]; omega
    · have hii : decide ((i : Int) < (n0 : Int)) = false := decide_eq_false (by omega)
      have hall : l.take i = l := List.take_of_length_le (by have := HN.out; omega)
      rw [hall] at mp
      go_wp2_with fail
      go_ret
      exact ⟨rfl, ⟨n, by omega, mp⟩, kk⟩


end Go.Proofs.YtogengangfohfaaGreat
