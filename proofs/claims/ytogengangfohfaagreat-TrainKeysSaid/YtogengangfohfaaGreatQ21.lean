/-
  A scope of labels that no goto leaves, in the fenced walk. No program is in sight here.
  Keys' iterator: its contract.
-/
import Derived.Test.YtogengangfohfaaGreatQ4
import Derived.Test.YtogengangfohfaaGreatQ7
import Derived.Test.YtogengangfohfaaGreatQ14
import Derived.BigFrameIn
import Derived.IntWalk
namespace Go.Proofs.YtogengangfohfaaGreat
section
set_option linter.unusedVariables false
set_option linter.unusedSimpArgs false

section
variable {P : Program} {b : Frame} {a : Act} {k : List Item} {cs : List Frame} {w : World} {F : Fence} {n : Nat} {Q : Exit → Act → World → Prop}
theorem stepR_scope {c : Code} : step P (lone (b.atR a (.code (.scope c) :: k)) cs w) = .next (lone (b.atR a (.code c :: .inScope c :: k)) cs w) :=
  step_lone_go (by simp [stepG, stepG.exec, Frame.atR])
theorem stepR_inScope {c : Code} : step P (lone (b.atR a (.inScope c :: k)) cs w) = .next (lone (b.atR a k) cs w) :=
  step_lone_go (by simp [stepG, stepG.exec, Frame.atR])

theorem wpIn_scope {c : Code} (h : c.wpIn F n P (Exit.noGoto Q) a w) : (Code.scope c).wpIn F n P Q a w := by
  intro b k cs hro hb hr
  have h0 : (lone (b.atR a (.code (.scope c) :: k)) cs w).fenced P F := fenced_calm hb hr rfl
  obtain ⟨e, a₁, w₁, hq, harr⟩ := h b (.inScope c :: k) cs hro hb hr
  cases e with
  | normal => exact ⟨.normal, a₁, w₁, hq, .head h0 stepR_scope (StepsIn.trans harr (.one (fenced_calm hb hr rfl) stepR_inScope))⟩
  | exit id =>
    have hx : exitTo id (.inScope c :: k) = exitTo id k := by simp [exitTo]
    exact ⟨.exit id, a₁, w₁, hq, fun k' hk => .head h0 stepR_scope (harr.1 k' (by rw [hx]; exact hk)),
        fun hr' hk => let ⟨k₁, h1, h2⟩ := harr.2 hr' (by rw [hx]; exact hk); ⟨k₁, h1, .head h0 stepR_scope h2⟩⟩
  | goto l => exact hq.elim
  | ret => exact ⟨_, a₁, w₁, hq, .of_steps (.one h0 stepR_scope) harr⟩
  | panic ch => exact ⟨_, a₁, w₁, hq, .of_steps (.one h0 stepR_scope) harr⟩
  | outgrown => exact ⟨_, a₁, w₁, hq, .of_steps (.one h0 stepR_scope) harr⟩
end
end

section
set_option linter.unusedVariables false
set_option linter.unusedSimpArgs false
set_option linter.unusedSectionVars false
open Go.RowKit

attribute [local go_sem] Oper.semAt_some

abbrev encK (c : List Int → Nat) (k : List Int) : Array Value := #[keyS k, .int .i64 (c k : Nat)]

set_option maxRecDepth 100000 in
set_option maxHeartbeats 4000000 in
theorem keys1_seq (bl bk m n g ln lc : Nat) (la : Option Addr) (L : List (List Int)) (c : List Int → Nat) (f : List Int → Option Int) (w : World) (hbl : Blk w bl #[.slice la ln lc] 25) (hbk : Blk w bk #[.map (some m)] 80)
    (hr : RdS w (.slice la ln lc) L) (hla : ∀ p, 0 < ln → la = some p → p.block = g) (hm : MapS w m n f) (hf : ∀ q, (f q).getD 0 = (c q : Int)) (hc : ∀ q, c q ≤ 1024) (hL : L.length ≤ 1000000000) (hw : ∀ k ∈ L, KeyWf k) :
    SeqB Tryz.prog 41 #[.pointer (some ⟨bl, 0, none⟩), .pointer (some ⟨bk, 0, none⟩)] (encK c) (fun k => k ≠ bl ∧ k ≠ bk ∧ k ≠ m ∧ k ≠ g)
      (fun ys => ys = outK c L) (fun pre => pre <+: outK c L) w := by
  intro lo C J Jx W hW hC hJ hJx hY h0
  have hKW := Keeps.of_below hW
  have bl0 := hbl.keeps hKW (by simp)
  have bk0 := hbk.keeps hKW (by simp)
  have hr0 := RdW.keep hr hKW
  have hm0 := hm.keeps hKW (by simp)
  have HY := Lib.hid hY
  have HJ := Lib.hid hJ
  have HC := Lib.hid hC
  have HF := Lib.hid hf
  have HCC := Lib.hid hc
  have HWF := Lib.hid hw
  have HLA := Lib.hid hla
  have hln : Hid (ln = L.length) := RdW.len hr0
  have hmm := @run_makeMap Tryz.prog
  clear hbl hbk hr hm hY hJ hC hf hc hw hW hla
  refine callsIn_of_wp Tryz.func41 rfl trivial ?_ rfl
  simp only [Tryz.ntmps41, List.size_toArray, List.length_cons, List.length_nil, Nat.reduceAdd, Nat.reduceSub, Array.replicate_succ, Array.replicate_zero, List.push_toArray, List.append_toArray, List.nil_append, List.cons_append]
  have kz : Keeps W (W.alloc (.map #[] 0)) [] := (Keeps.refl W []).alloc _
  have bl1 := bl0.keeps kz (by simp)
  have bk1 := bk0.keeps kz (by simp)
  have hr1 := RdW.keep hr0 kz
  have hm1 := hm0.keeps kz (by simp)
  have ms := MapS.made W
  have hB0 : Below W.heap.size W (W.alloc (.map #[] 0)) := kz.below
  have hsz : (W.alloc (.map #[] 0)).heap.size = W.heap.size + 1 := by simp
  obtain ⟨c0, -⟩ := bl1.one
  refine wpIn_scope ?_
  gi_wp2
  apply wpIn_label
  gi_wp2
  clear hmm
  rw [← cntF_nil] at ms
  have HSZ := Lib.hid hsz
  have hJ0 := HJ.out _ _ _ h0 hB0
  have hCW : Hid (∀ k, W.heap.size ≤ k → k ∉ C) := fun k hk hm => by have := (HC.out k hm).1; omega
  have hbb1 := bl0.lt
  have hbb2 := bk0.lt
  have hbb3 := hm0.lt
  have hbb4 : Hid (0 < ln → ∀ b o, la = some ⟨b, o, none⟩ → b < W.heap.size) := fun h0 b o e => by
    obtain ⟨a', n', cp', he, hn', hcp', -, hcc'⟩ := RdW.form hr0
    obtain ⟨e1, e2, e3⟩ := Value.slice.inj he
    subst e1 e2 e3
    obtain ⟨b2, o2, e4, hb2, -⟩ := hcc' h0
    rw [e4] at e; cases e; exact hb2
  clear hsz bl0 bk0 hr0 hm0 c0
  generalize (W.alloc (.map #[] 0)) = W0 at *
  gi_loopw [10] (fun s10 wr => ∃ j : Nat, j ≤ ln ∧ s10 = .int .i64 j ∧ MapS wr W.heap.size j (cntF (L.take j)) ∧ Blk wr bk #[.map (some m)] 80 ∧ RdS wr (.slice la ln lc) L ∧ MapS wr m n f ∧ Hid (J (outK c (L.take j)) wr) ∧ Hid (W.heap.size < wr.heap.size)) (fun s10 _ => ln - (intOf s10).toNat)
  case atStart => exact ⟨0, Nat.zero_le _, rfl, ms, bk1, hr1, hm1, hJ0, by rw [HSZ.out]; exact Nat.lt_succ_self _⟩
  case round =>
    clear ms bk1 hr1 hm1 hJ0 bl1
    obtain ⟨j, hj, rfl, ms, bk1, hr1, hm1, hJs, hwl⟩ := hrel
    by_cases hlt : j < ln
    · obtain ⟨k, hk⟩ : ∃ k, L[j]? = some k := ⟨_, List.getElem?_eq_getElem (by have := hln.out; omega)⟩
      obtain ⟨b3, o3, rfl, hb3, hcc3⟩ := RdS.at hr1 hk
      have hjj : (j : Int) < (ln : Int) := by omega
      have hcap3 := RdW.cap hr1
      have hb4 : b3 < W.heap.size := hbb4.out (by omega) b3 o3 rfl
      have hg : b3 = g := HLA.out ⟨b3, o3, none⟩ (by omega) rfl
      subst hg
      have hwf := HWF.out k (List.mem_of_getElem? hk)
      have hlook := ms.look hwf
      rw [cntF_get] at hlook
      have hstep : L.take (j + 1) = L.take j ++ [k] := by rw [List.take_add_one, hk]; rfl
      have hcl : (L.take j).count k ≤ j := Nat.le_trans List.count_le_length (List.length_take_le _ _)
      obtain ⟨T, hT⟩ : ∃ T, T = (L.take j).count k := ⟨_, rfl⟩
      rw [← hT] at hlook hcl
      have hjb : j ≤ 1000000000 := by have := hln.out; omega
      obtain ⟨w2, hu1, ms2, g2⟩ := ms.update hwf ((T : Int) + 1) (WalkArith.wf_i64 (by omega)) (by unfold maxLen; omega)
      have hf2 : upd (cntF (L.take j)) k ((T : Int) + 1) = cntF (L.take (j + 1)) := by rw [hstep, hT]; exact cntF_snoc _ _
      rw [hf2] at ms2
      have hlook2 := ms2.look hwf
      have hcnt2 : (cntF (L.take (j + 1)) k).getD 0 = (T : Int) + 1 := by rw [cntF_get, hstep, List.count_append, hT]; simp
      rw [hcnt2] at hlook2
      have k2 : Keeps wr w2 [W.heap.size] := Keeps.of_grown g2 (fun k hk => by cases hk; simp)
      have bk2 := bk1.keeps k2 (by simp; omega)
      have hm2 := hm1.keeps k2 (by simp; omega)
      have hr2 : RdS w2 (.slice (some ⟨b3, o3, none⟩) ln lc) L := RdW.keeps hr1 k2 (fun ad n cp he _ hm => by cases he; have := List.mem_singleton.1 hm; dsimp only at this; omega)
      have hJ2 : J (outK c (L.take j)) w2 := HJ.out _ _ _ hJs.out ⟨k2.os, k2.tape, k2.output, k2.size, fun x hx => k2.block x (by have := hwl.out; omega) (by simp; omega)⟩
      have hwl2 : Hid (W.heap.size < w2.heap.size) := Nat.lt_of_lt_of_le hwl.out k2.size
      obtain ⟨cb, -⟩ := bk2.one
      have hlook3 := hm2.look hwf
      have hfX := HF.out k
      rw [hfX] at hlook3
      have hXc := HCC.out k
      have MS2 := Lib.hid ms2
      have HR2 := Lib.hid hr2
      have HM2 := Lib.hid hm2
      have HJ2 := Lib.hid hJ2
      have BK2 := Lib.hid bk2
      clear ms ms2 hr1 hr2 hm1 hm2 hJs hJ2 bk1 bk2 hf2 hcnt2 g2 hfX k2
      by_cases hin : k ∈ L.take j
      · have hc1 : 1 ≤ T := by rw [hT]; exact List.one_le_count_iff.2 hin
        have heq : ((T : Int) + 1 == 1) = false := by simp; omega
        have hO : Hid (outK c (L.take (j + 1)) = outK c (L.take j)) := by show _ = _; rw [hstep]; exact outK_old hin
        clear hstep hT hin hk
        gi_wp2
        refine ⟨(fun _ hh => by cases hh), ?_⟩
        gi_wp2
        go_roundw
        case rel => exact ⟨j + 1, by omega, by go_num, MS2.out, BK2.out, HR2.out, HM2.out, (by show J _ _; rw [hO.out]; exact HJ2.out), hwl2⟩
        case measure => simp [intOf]; omega
      · have hc0 : T = 0 := by rw [hT]; exact List.count_eq_zero.2 hin
        subst hc0
        simp only [Int.natCast_zero, Int.zero_add] at hlook hu1 hlook2
        obtain ⟨X, hX⟩ : ∃ X, X = c k := ⟨_, rfl⟩
        by_cases h1 : 1 < c k
        · have hO : Hid (outK c (L.take (j + 1)) = outK c (L.take j) ++ [k]) := by show _ = _; rw [hstep]; exact outK_yes h1 hin
          have hsp : outK c (L.take j) ++ [k] <+: outK c L := by
            rw [← hO.out]
            have := outK_pre c (L.take (j + 1)) (L.drop (j + 1))
            rwa [List.take_append_drop] at this
          have HSP := Lib.hid hsp
          obtain ⟨fn, tmps, assign, body, hy, hR⟩ := HY.out (outK c (L.take j)) k w2 HJ2.out hsp
          dsimp only [encK] at hy
          rw [← hX] at hlook3 hy hXc
          have h1' : (1 : Int) < (X : Int) := by omega
          clear hstep hT hin hk h1 hX hsp
          gi_wp2
          refine (round_any hR).mono ?_
          rintro e W3 (⟨rfl, hJ3, hk3⟩ | ⟨rfl, hJx3, hk3⟩)
          · have ms3 := MS2.out.keeps hk3 (hCW.out _ (Nat.le_refl _))
            have bk3 := BK2.out.keeps hk3 (fun hm => (HC.out _ hm).2.2.1 rfl)
            have hr3 : RdS W3 (.slice (some ⟨b3, o3, none⟩) ln lc) L := RdW.keeps HR2.out hk3 (fun ad n cp he _ hm => by cases he; exact (HC.out _ hm).2.2.2.2 rfl)
            have hm3 := HM2.out.keeps hk3 (fun hm => (HC.out _ hm).2.2.2.1 rfl)
            have hwl3 : Hid (W.heap.size < W3.heap.size) := Nat.lt_of_lt_of_le hwl2.out hk3.size
            have hJ3' : Hid (J (outK c (L.take (j + 1))) W3) := by show J _ _; rw [hO.out]; exact hJ3
            clear hJ3 hk3
            gi_wp2
            go_roundw
            case rel => exact ⟨j + 1, by omega, by go_num, ms3, bk3, hr3, hm3, hJ3', hwl3⟩
            case measure => simp [intOf]; omega
          · gi_wp2
            simp only [Exit.noGoto]
            go_end0
            exact ⟨⟨_, rfl⟩, .inr ⟨_, HSP.out, hJx3⟩⟩
        · have hO : Hid (outK c (L.take (j + 1)) = outK c (L.take j)) := by show _ = _; rw [hstep]; exact outK_no h1
          rw [← hX] at hlook3 hXc
          have h1' : decide ((1 : Int) < (X : Int)) = false := decide_eq_false (by omega)
          clear hstep hT hin hk h1 hX
          gi_wp2
          refine ⟨(fun _ hh => by cases hh), ?_⟩
          gi_wp2
          go_roundw
          case rel => exact ⟨j + 1, by omega, by go_num, MS2.out, BK2.out, HR2.out, HM2.out, (by show J _ _; rw [hO.out]; exact HJ2.out), hwl2⟩
          case measure => simp [intOf]; omega
    · have hjj : decide ((j : Int) < (ln : Int)) = false := decide_eq_false (by omega)
      have hall : L.take j = L := List.take_of_length_le (by have := hln.out; omega)
      rw [hall] at hJs
      gi_wp2
      simp only [Exit.noGoto]
      go_end0
      exact ⟨⟨_, rfl⟩, .inl ⟨_, rfl, hJs.out⟩⟩
end

end Go.Proofs.YtogengangfohfaaGreat
