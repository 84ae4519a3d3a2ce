/-
  The reference of training: Keys.
-/
import Derived.Test.YtogengangfohfaaGreatQ13
import Derived.Test.YtogengangfohfaaGreatQ10
import Derived.Maps.AppendAt
namespace Go.Proofs.YtogengangfohfaaGreat
set_option linter.unusedVariables false
set_option linter.unusedSimpArgs false
set_option linter.unusedSectionVars false
open Go.RowKit

theorem Tryz.infoInt : (Tryz.prog.info? 3).map (fun i => (i.zero, i.size, i.bytes)) = some (some (.int .i64 0), 1, 8) := by kernel_rfl

theorem own_apart {w : World} {b1 b2 : Nat} {e1 e2 : TypeId} {s1 s2 n1 n2 : Nat} {v1 v2 : Value} {x1 x2 : List Value} (h1 : w.ownsRow b1 e1 s1 v1 n1 x1) (h2 : w.ownsRow b2 e2 s2 v2 n2 x2) (he : e1 ≠ e2) {g : Nat} (hg : v1.ownBlock = some g) : g ∉ ownL v2 := fun hm => by
  have hg2 := mem_ownL.1 hm
  rcases h2.2 with ⟨e, -⟩ | ⟨g', cp, cur, e, -, hgb, -⟩
  · rw [e] at hg2; cases hg2
  · rw [e] at hg2
    cases hg2
    exact own_neO h1 hgb (fun cs h => by cases h; exact he rfl) hg
/-- append of one value of a cell, just laid; where the row lies. -/
theorem wpList_app1A {P : Program} {w : World} {ops : Array Oper} {rest : List Oper} {o : Oper} {a : Act} {Q : Exit → Act → World → Prop} (hg : o.guard = none) (s x : Operand) (t : TypeId)
    (ho : o.op = .call { callee := .builtin .append, args := #[s, x], argTypes := #[t, t] })
    (base : Nat) (e : TypeId) (i : TypeInfo) (z : Value) (bytes : Nat) (ht : P.underlying t = some (.slice e)) (hi : P.info? e = some i) (hz : i.zero = some z) (hsize : i.size = 1) (hby : i.bytes = bytes) (hzs : z.cells.size = 1)
    (v : Value) (n : Nat) (L : List Value) (y : Value) (hy : y.oneCell' = true) (B : Nat) (hs : a.eval s = v) (hx : a.eval x = .slice (some ⟨B, 0, none⟩) 1 1) (hB : w.heap.size = B)
    (hown : w.ownsRow base e 1 v n L) (h63 : n + 1 ≤ maxLen) (hbytes : (n + 1) * bytes ≤ 140737488355328) (hbase : base ≤ w.heap.size)
    (h : ∀ a' c' w', w'.ownsRow base e 1 (.slice a' (n + 1) c') (n + 1) (L ++ [y]) → Keeps w w' (ownL v) → (∀ g ∈ ownL (.slice a' (n + 1) c'), g ∈ ownL v ∨ w.heap.size ≤ g) → wpList P ops Q rest (a.put o.dst (.slice a' (n + 1) c')) w') :
    wpList P ops Q (o :: rest) a (w.alloc (.cells #[y] e)) := by
  subst hB
  have hown2 := own_keeps hown ((Keeps.refl w []).alloc (.cells #[y] e))
  obtain ⟨v', w', hr, h2, h3, h4, h5⟩ := run_append_own_at (P := P) (w.alloc (.cells #[y] e)) base t o.type e i z 1 bytes ht hi hz hsize hby hzs (by decide) v n L hown2 ⟨w.heap.size, 0, none⟩ 1 1 [y] rfl (own_news1 (Blk.new w _ _)) (by simpa using hy) h63 (by omega) (by simp; omega)
  refine wpList_plain hg fun K hK => ?_
  unfold Oper.wp
  simp [execOp, ho, resolve, invoke, builtin, hs, hx, hr, Result.andThen]
  obtain ⟨a3, c3, rfl⟩ := own_form h2
  refine hK _ _ (h a3 c3 w' h2 (((Keeps.refl w _).alloc _).trans (Keeps.of_grown h3 (fun k hk => mem_ownL.2 hk)) (fun j hj _ => hj)) (fun g hg => ?_))
  have hg2 := mem_ownL.1 hg
  rcases h5 with h5 | h5
  · exact .inl (mem_ownL.2 (h5 ▸ hg2))
  · rw [h5] at hg2
    cases hg2
    right; simp
theorem outK_sub {c : List Int → Nat} {L : List (List Int)} {k : List Int} (h : k ∈ outK c L) : k ∈ L := by
  unfold outK at h
  rw [mem_ded] at h
  exact (List.mem_filter.1 h).1
theorem outK_len (c : List Int → Nat) (L : List (List Int)) : (outK c L).length ≤ L.length := Nat.le_trans (ded_len _) (List.length_filter_le _ _)
/-- The frequencies of keys. -/
def cntsI (c : List Int → Nat) (L : List (List Int)) : List Int := L.map fun k => (c k : Int)

/-- How the reference's Keys ends. -/
def RKEnd (w : World) (l : List (List Int)) (e : Ending) (w' : World) : Prop := Keeps w w' [] ∧
  ((mayL l ∧ ∃ v' m', e = .returned (.tuple #[v', m']) ∧ OwnS w' w.heap.size v' (outK (cntL l) (allK l)) ∧ RdI .i64 w' m' (cntsI (cntL l) (outK (cntL l) (allK l)))) ∨ (¬ mayL l ∧ e = .returned (.tuple #[.slice none 0 0, .slice none 0 0])))

set_option maxRecDepth 100000 in
set_option maxHeartbeats 4000000 in
theorem rKeys_any (v : Value) (l : List (List Int)) (w : World) (hv : RdL .u8 w v l) (hb : ∀ b ∈ l, ∀ x ∈ b, 0 ≤ x ∧ x ≤ 255) (hll : l.length ≤ 1000000000) :
    Calls Tryz.prog 12 #[v] w (RKEnd w l) := by
  obtain ⟨j0, hj0, yz0, yz1, yz2⟩ := info_parts Tryz.infoStr
  obtain ⟨i0, hi0, hz0, hz1, hz2⟩ := info_parts Tryz.infoInt
  have HM : ∀ r : Bool, (mayL l ↔ r = true) → Hid (Calls Tryz.prog 35 #[v] w fun e w' => e = .returned (.bool r) ∧ w = w') := fun r h => rmay_any v l w hv hll h
  by_cases hm : mayL l
  rotate_left
  · have HM1 := HM false (by simp [hm])
    have HMM := Lib.hid hm
    obtain ⟨A1, n1, cp1, rfl, -⟩ := hv.form
    clear HM hm hv hb
    go_enter Tryz.func12, Tryz.ntmps12
    go_wp2_with (first | (go_at_call 35; refine HM1.out.mono ?_; rintro e w2 ⟨rfl, rfl⟩))
    go_ret2
    exact ⟨Keeps.refl _ _, .inr ⟨HMM.out, rfl⟩⟩
  have HM1 := HM true (by simp [hm])
  have HMM := Lib.hid hm
  have hl := hm.1
  have HBL := Lib.hid hm.2
  obtain ⟨A0, n0, cp0, rfl, hn0, -⟩ := hv.form
  have HV := Lib.hid hv
  have HN := Lib.hid hn0
  have HB := Lib.hid hb
  have hn1 : n0 ≤ 1024 := by omega
  have hak : ∀ i, (allK (l.take i)).length ≤ 134217728 := fun i => by
    have h1 := allK_len (l := l.take i) (m := 131072) (fun b hb => hm.2 b (List.mem_of_mem_take hb))
    have h2 : (l.take i).length ≤ l.length := by rw [List.length_take]; omega
    omega
  have HAK := Lib.hid hak
  obtain ⟨c, hc⟩ : ∃ c, c = cntL l := ⟨_, rfl⟩
  have HC := Lib.hid hc
  have HWF : Hid (∀ i, ∀ k ∈ allK (l.take i), KeyWf k) := fun i k hk => by
    simp only [allK, List.mem_flatMap] at hk
    obtain ⟨b, h1, h2⟩ := hk
    exact keys_wf (hb b (List.mem_of_mem_take h1)) h2
  clear HM hm hv hn0 hl hll hb hak hc
  go_enter Tryz.func12, Tryz.ntmps12
  go_wp2_with (first | (go_at_call 35; refine HM1.out.mono ?_; rintro e w2 ⟨rfl, rfl⟩))
  clear HM1
  go_loopw [4, 5, 6] (fun s4 s5 s6 wr => ∃ (i M : Nat) (oa : Option Addr) (oc : Nat) (ma : Option Addr) (mc : Nat), i ≤ n0 ∧ s6 = .int .i64 i ∧ s4 = .slice oa M oc ∧ s5 = .slice ma M mc ∧ Hid (M = (outK c (allK (l.take i))).length) ∧ OwnS wr w.heap.size s4 (outK c (allK (l.take i))) ∧
    wr.ownsRow w.heap.size 3 1 s5 M ((cntsI c (outK c (allK (l.take i)))).map (.int .i64)) ∧ Keeps w wr []) (fun _ _ s6 _ => n0 - (intOf s6).toNat)
  case atStart => exact ⟨0, 0, none, 0, none, 0, Nat.zero_le _, rfl, rfl, rfl, rfl, OwnS.nil _ _, World.ownsRow_nil _ _ _ _, Keeps.refl _ _⟩
  case round =>
    obtain ⟨i, M, oa, oc, ma, mc, hi, rfl, rfl, rfl, hM, ow, om, kk⟩ := hrel
    by_cases hlt : i < n0
    · obtain ⟨b, hbi⟩ : ∃ b, l[i]? = some b := ⟨_, List.getElem?_eq_getElem (by have := HN.out; omega)⟩
      obtain ⟨bb, oo, vi, rfl, hbb, hcc, hri, hcap⟩ := (HV.out.keeps kk).at hbi
      have hii : (i : Int) < (n0 : Int) := by omega
      have hbm := List.mem_of_getElem? hbi
      have hbl := HBL.out b hbm
      have HK := Lib.hid (rkeys_any vi b wr hri (HB.out b hbm) (by omega))
      have hkl := keys_len b
      have HKW : Hid (∀ k ∈ keysL b, KeyWf k) := fun k hk => keys_wf (HB.out b hbm) hk
      have hst : Hid (allK (l.take (i + 1)) = allK (l.take i) ++ keysL b) := by show _ = _; rw [List.take_add_one, hbi]; exact allK_snoc _ _
      obtain ⟨a2, n2, c2, rfl, -⟩ := hri.form
      have OW := Lib.hid ow
      have OM := Lib.hid om
      clear hbi hbm hri ow om
      go_wp2_with fail
      refine HK.out.mono ?_
      rintro e w1 ⟨v1, rfl, own1, k1⟩
      have HS := Lib.hid own1.reads
      obtain ⟨a1, c1, rfl⟩ := own_form own1
      have HSEP : Hid (∀ ad n cp, Value.slice a1 (keysL b).length c1 = .slice (some ad) n cp → 0 < n → wr.heap.size ≤ ad.block ∧ ad.block < w1.heap.size) := fun ad n cp he h0 => by
        rcases own1.2 with ⟨e, -⟩ | ⟨g, cp, cur, e, -, hg, -⟩
        · rw [e] at he; cases he
        · have h1 := World.ownsRow.lt own1 g (by rw [e]; rfl)
          rw [e] at he; cases he
          exact h1
      have ow1 := OW.out.keeps k1
      have om1 := own_keeps OM.out k1
      have kk1 := kk.trans k1 (by simp)
      have hks := kk.size
      have hk1s := k1.size
      have hw0 : ∀ j, j ∈ ownL (.slice oa M oc) ++ ownL (.slice ma M mc) → j < wr.heap.size := fun j hj => by
        rcases List.mem_append.1 hj with hj | hj
        · exact (World.ownsRow.lt OW.out j (mem_ownL.1 hj)).2
        · exact (World.ownsRow.lt OM.out j (mem_ownL.1 hj)).2
      clear HK own1 OW OM k1 kk
      generalize keysL b = ks at *
      have hksl : ks.length ≤ 131072 := by omega
      have hM0 : Hid (M = (outK c (allK (l.take i) ++ ks.take 0)).length) := by show _ = _; rw [List.take_zero, List.append_nil]; exact hM.out
      have ow0 : OwnS w1 w.heap.size (.slice oa M oc) (outK c (allK (l.take i) ++ ks.take 0)) := by rw [List.take_zero, List.append_nil]; exact ow1
      have om0 : w1.ownsRow w.heap.size 3 1 (.slice ma M mc) M ((cntsI c (outK c (allK (l.take i) ++ ks.take 0))).map (.int .i64)) := by rw [List.take_zero, List.append_nil]; exact om1
      clear hM ow1 om1
      go_wp2_with fail
      go_loopw [4, 5, 8] (fun s4 s5 s8 wx => ∃ (j M : Nat) (oa : Option Addr) (oc : Nat) (ma : Option Addr) (mc : Nat), j ≤ ks.length ∧ s8 = .int .i64 j ∧ s4 = .slice oa M oc ∧ s5 = .slice ma M mc ∧ Hid (M = (outK c (allK (l.take i) ++ ks.take j)).length) ∧ OwnS wx w.heap.size s4 (outK c (allK (l.take i) ++ ks.take j)) ∧
        wx.ownsRow w.heap.size 3 1 s5 M ((cntsI c (outK c (allK (l.take i) ++ ks.take j))).map (.int .i64)) ∧ Keeps w wx [] ∧ RdS wx (.slice a1 ks.length c1) ks ∧ Hid (∀ x ∈ ownL s4 ++ ownL s5, x < wr.heap.size ∨ w1.heap.size ≤ x) ∧ Hid (w1.heap.size ≤ wx.heap.size)) (fun _ _ s8 _ => ks.length - (intOf s8).toNat)
      case atStart => exact ⟨0, M, oa, oc, ma, mc, Nat.zero_le _, rfl, rfl, rfl, hM0, ow0, om0, kk1, HS.out, fun x hx => .inl (hw0 x hx), Nat.le_refl _⟩
      case round =>
        clear hM0 ow0 om0
        obtain ⟨j, M, oa, oc, ma, mc, hj, rfl, rfl, rfl, hM, ow, om, kk, rd, hloc, hw1⟩ := hrel
        by_cases hltj : j < ks.length
        · obtain ⟨k, hk⟩ : ∃ k, ks[j]? = some k := ⟨_, List.getElem?_eq_getElem hltj⟩
          obtain ⟨b3, o3, rfl, hb3, hcc3⟩ := rd.at hk
          have hjj : (j : Int) < (ks.length : Int) := by omega
          have hcap3 := RdW.cap rd
          have hwf := HKW.out k (List.mem_of_getElem? hk)
          have HKN := Lib.hid (rknown_any (.slice (some ⟨bb, oo, none⟩) n0 cp0) l k wr (HV.out.keeps kk) HB.out HMM.out.1 HMM.out.2 hwf)
          rw [← HC.out] at HKN
          have hXc : c k ≤ 1024 := by rw [HC.out]; have := cnt_le l k; have := HMM.out.1; omega
          have hstp : Hid (allK (l.take i) ++ ks.take (j + 1) = allK (l.take i) ++ ks.take j ++ [k]) := by show _ = _; rw [List.take_add_one, hk, List.append_assoc]; rfl
          have hwfL : ∀ x ∈ outK c (allK (l.take i) ++ ks.take j), KeyWf x := fun x hx => by
            rcases List.mem_append.1 (outK_sub hx) with h | h
            · exact HWF.out i x h
            · exact HKW.out x (List.mem_of_mem_take h)
          have hlL : (outK c (allK (l.take i) ++ ks.take j)).length ≤ 300000000 := by
            have h1 := outK_len c (allK (l.take i) ++ ks.take j)
            have h2 := HAK.out i
            have h3 := List.length_take_le j ks
            rw [List.length_append] at h1
            omega
          have HHA : Hid (∀ r : Bool, (k ∈ outK c (allK (l.take i) ++ ks.take j) ↔ r = true) → Calls Tryz.prog 38 #[.slice oa M oc, keyS k] wr fun e w' => e = .returned (.bool r) ∧ wr = w') := fun r hr => rhas_any _ _ k wr ow.reads hwfL hwf (by omega) hr
          have hyes : 1 < c k → k ∉ allK (l.take i) ++ ks.take j → outK c (allK (l.take i) ++ ks.take (j + 1)) = outK c (allK (l.take i) ++ ks.take j) ++ [k] := fun h1 h2 => by rw [hstp.out]; exact outK_yes h1 h2
          have hold : k ∈ allK (l.take i) ++ ks.take j → outK c (allK (l.take i) ++ ks.take (j + 1)) = outK c (allK (l.take i) ++ ks.take j) := fun h2 => by rw [hstp.out]; exact outK_old h2
          have hno : ¬ 1 < c k → outK c (allK (l.take i) ++ ks.take (j + 1)) = outK c (allK (l.take i) ++ ks.take j) := fun h2 => by rw [hstp.out]; exact outK_no h2
          have hmem : 1 < c k → (k ∈ outK c (allK (l.take i) ++ ks.take j) ↔ k ∈ allK (l.take i) ++ ks.take j) := fun h => outK_mem h
          have HY := Lib.hid hyes
          have HO := Lib.hid hold
          have HNO := Lib.hid hno
          have HME := Lib.hid hmem
          have OWH := Lib.hid ow
          have OMH := Lib.hid om
          have RDH := Lib.hid rd
          have hkk := kk.size
          obtain ⟨X, hX⟩ : ∃ X, X = c k := ⟨_, rfl⟩
          rw [← hX] at HKN hXc
          have HX := Lib.hid hX
          clear hyes hold hno hmem hwfL ow om rd hk hX
          by_cases h1 : 1 < X
          · have h1' : (1 : Int) < (X : Int) := by omega
            by_cases hin : k ∈ allK (l.take i) ++ ks.take j
            · have HH1 := Lib.hid (HHA.out true (by rw [HME.out (by rw [← HX.out]; exact h1)]; simp [hin]))
              have hT : Hid (outK c (allK (l.take i) ++ ks.take (j + 1)) = outK c (allK (l.take i) ++ ks.take j)) := HO.out hin
              have hM2 : Hid (M = (outK c (allK (l.take i) ++ ks.take (j + 1))).length) := by show _ = _; rw [hT.out]; exact hM.out
              have ow2 : OwnS wr w.heap.size (.slice oa M oc) (outK c (allK (l.take i) ++ ks.take (j + 1))) := by rw [hT.out]; exact OWH.out
              have om2 : wr.ownsRow w.heap.size 3 1 (.slice ma M mc) M ((cntsI c (outK c (allK (l.take i) ++ ks.take (j + 1)))).map (.int .i64)) := by rw [hT.out]; exact OMH.out
              clear HHA hin HY HO HNO HME
              go_wp2_with (first | (go_at_call 37; refine HKN.out.mono ?_; rintro e w2 ⟨rfl, rfl⟩) | (go_at_call 38; refine HH1.out.mono ?_; rintro e w3 ⟨rfl, rfl⟩))
              go_roundw
              case rel => exact ⟨j + 1, M, oa, oc, ma, mc, by omega, by go_num, rfl, rfl, hM2, ow2, om2, kk, RDH.out, hloc, hw1⟩
              case measure => simp [intOf]; omega
            · have HH1 := Lib.hid (HHA.out false (by rw [HME.out (by rw [← HX.out]; exact h1)]; simp [hin]))
              have hT : Hid (outK c (allK (l.take i) ++ ks.take (j + 1)) = outK c (allK (l.take i) ++ ks.take j) ++ [k]) := HY.out (by rw [← HX.out]; exact h1) hin
              have hXk : Hid ((c k : Int) = (X : Int)) := by show _ = _; rw [HX.out]
              have hMb : M ≤ 300000000 := by have := hM.out; omega
              clear HHA hin HY HO HNO HME
              generalize (outK c (allK (l.take i) ++ ks.take j)) = L at *
              obtain ⟨L', hL'⟩ : ∃ L', L' = outK c (allK (l.take i) ++ ks.take (j + 1)) := ⟨_, rfl⟩
              rw [← hL'] at hT
              have HL' := Lib.hid hL'
              clear hL'
              have OWN1 : Hid (wr.ownsRow w.heap.size 9 1 (.slice oa M oc) M (cellsW rowS L)) := by have h := OWH.out; unfold OwnS at h; rw [← hM.out] at h; exact h
              go_wp2_with (first
                | (go_at_call 37; refine HKN.out.mono ?_; rintro e w2 ⟨rfl, rfl⟩)
                | (go_at_call 38; refine HH1.out.mono ?_; rintro e w3 ⟨rfl, rfl⟩)
                | (at_builtin; with_reducible refine wpList_app1A rfl (.tmp 47) (.tmp 52) 25 rfl w.heap.size 9 j0 (.string .empty) 16 Tryz.underlying25 hj0 yz0 yz1 yz2 rfl (.slice oa M oc) M (cellsW rowS L) (keyS k) rfl _ rfl rfl rfl OWN1.out (by unfold maxLen; omega) (by omega) hkk ?_; intro a4 c4 w4 own4 k4 at4; have hs4 := k4.size)
                | (at_builtin; with_reducible refine wpList_app1A rfl (.tmp 54) (.tmp 56) 26 rfl w.heap.size 3 i0 (.int .i64 0) 8 Tryz.underlying26 hi0 hz0 hz1 hz2 rfl (.slice ma M mc) M ((cntsI c L).map (.int .i64)) (.int .i64 (X : Int)) rfl _ rfl rfl rfl (own_moveO OMH.out (fun g hg => k4.block g (World.ownsRow.lt OMH.out g hg).2 (own_apart OMH.out OWN1.out (by decide) hg))) (by unfold maxLen; omega) (by omega) (by omega) ?_; intro a5 c5 w5 own5 k5 at5))
              have om4 : w4.ownsRow w.heap.size 3 1 (.slice ma M mc) M ((cntsI c L).map (.int .i64)) := own_moveO OMH.out (fun g hg => k4.block g (World.ownsRow.lt OMH.out g hg).2 (own_apart OMH.out OWN1.out (by decide) hg))
              have ow5 : w5.ownsRow w.heap.size 9 1 (.slice a4 (M + 1) c4) (M + 1) (cellsW rowS L ++ [keyS k]) := own_moveO own4 (fun g hg => k5.block g (World.ownsRow.lt own4 g hg).2 (own_apart own4 om4 (by decide) hg))
              have rd4 := RdW.keeps RDH.out k4 (fun ad n cp he h0 hm => by have h1 := HSEP.out ad n cp he h0; rcases hloc.out _ (List.mem_append.2 (.inl hm)) with h2 | h2 <;> omega)
              have rd5 : RdS w5 (.slice (some ⟨b3, o3, none⟩) ks.length c1) ks := RdW.keeps rd4 k5 (fun ad n cp he h0 hm => by have h1 := HSEP.out ad n cp he h0; rcases hloc.out _ (List.mem_append.2 (.inr hm)) with h2 | h2 <;> omega)
              have kk5 : Keeps w w5 [] := (kk.trans k4 (fun x hx hlt => by have := (World.ownsRow.lt OWN1.out x (mem_ownL.1 hx)).1; omega)).trans k5 (fun x hx hlt => by have := (World.ownsRow.lt OMH.out x (mem_ownL.1 hx)).1; omega)
              have hloc5 : Hid (∀ x, x ∈ ownL (.slice a4 (M + 1) c4) ++ ownL (.slice a5 (M + 1) c5) → _ ∨ _) := fun x hx => by
                rcases List.mem_append.1 hx with hx | hx
                · rcases at4 x hx with h | h
                  · exact hloc.out x (List.mem_append.2 (.inl h))
                  · exact .inr (Nat.le_trans hw1.out h)
                · rcases at5 x hx with h | h
                  · exact hloc.out x (List.mem_append.2 (.inr h))
                  · exact .inr (Nat.le_trans hw1.out (Nat.le_trans hs4 h))
              have hw5 : Hid (w1.heap.size ≤ w5.heap.size) := Nat.le_trans hw1.out (Nat.le_trans hs4 k5.size)
              have hM5 : Hid (M + 1 = L'.length) := by show _ = _; rw [hT.out, List.length_append, ← hM.out]; rfl
              have ow6 : OwnS w5 w.heap.size (.slice a4 (M + 1) c4) L' := by
                unfold OwnS
                rw [hT.out, List.length_append, ← hM.out, cellsW_append rowS_len]
                exact ow5
              have om6 : w5.ownsRow w.heap.size 3 1 (.slice a5 (M + 1) c5) (M + 1) ((cntsI c L').map (.int .i64)) := by
                have e : (cntsI c L').map (Value.int .i64) = (cntsI c L).map (Value.int .i64) ++ [Value.int .i64 (X : Int)] := by rw [hT.out]; simp [cntsI, hXk.out]
                rw [e]
                exact own5
              rw [HL'.out] at ow6 om6 hM5
              go_roundw
              case rel => exact ⟨j + 1, M + 1, a4, c4, a5, c5, by omega, by go_num, rfl, rfl, hM5, ow6, om6, kk5, rd5, hloc5, hw5⟩
              case measure => simp [intOf]; omega
          · have h1' : decide ((1 : Int) < (X : Int)) = false := decide_eq_false (by omega)
            have hT : Hid (outK c (allK (l.take i) ++ ks.take (j + 1)) = outK c (allK (l.take i) ++ ks.take j)) := HNO.out (by rw [← HX.out]; exact h1)
            have hM2 : Hid (M = (outK c (allK (l.take i) ++ ks.take (j + 1))).length) := by show _ = _; rw [hT.out]; exact hM.out
            have ow2 : OwnS wr w.heap.size (.slice oa M oc) (outK c (allK (l.take i) ++ ks.take (j + 1))) := by rw [hT.out]; exact OWH.out
            have om2 : wr.ownsRow w.heap.size 3 1 (.slice ma M mc) M ((cntsI c (outK c (allK (l.take i) ++ ks.take (j + 1)))).map (.int .i64)) := by rw [hT.out]; exact OMH.out
            clear HHA HY HO HNO HME
            go_wp2_with (first | (go_at_call 37; refine HKN.out.mono ?_; rintro e w2 ⟨rfl, rfl⟩))
            go_roundw
            case rel => exact ⟨j + 1, M, oa, oc, ma, mc, by omega, by go_num, rfl, rfl, hM2, ow2, om2, kk, RDH.out, hloc, hw1⟩
            case measure => simp [intOf]; omega
        · have hjj : decide ((j : Int) < (ks.length : Int)) = false := decide_eq_false (by omega)
          have hall : ks.take j = ks := List.take_of_length_le (by omega)
          rw [hall, ← hst.out] at hM ow om
          clear hall
          go_wp2_with fail
          go_roundw
          case rel => exact ⟨i + 1, M, oa, oc, ma, mc, by omega, by go_num, rfl, rfl, hM, ow, om, kk⟩
          case measure => simp [intOf]; omega
    · have hii : decide ((i : Int) < (n0 : Int)) = false := decide_eq_false (by omega)
      have hall : l.take i = l := List.take_of_length_le (by have := HN.out; omega)
      rw [hall] at hM ow om
      have hMl : (cntsI c (outK c (allK l))).length = M := by rw [hM.out]; simp [cntsI]
      have rm : RdI .i64 wr (.slice ma M mc) (cntsI c (outK c (allK l))) := by
        have h := om
        rw [← hMl] at h
        rw [← hMl]
        exact own_reads h
      rw [HC.out] at ow rm
      clear hall om hM hMl
      go_wp2_with fail
      go_ret2
      exact ⟨kk, .inl ⟨HMM.out, _, _, rfl, ow, rm⟩⟩


end Go.Proofs.YtogengangfohfaaGreat
