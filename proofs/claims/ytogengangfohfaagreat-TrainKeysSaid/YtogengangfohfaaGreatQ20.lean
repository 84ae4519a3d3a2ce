/-
  Walks over package train: Keys.
-/
import Derived.Test.YtogengangfohfaaGreatQ13
import Derived.Test.YtogengangfohfaaGreatQ14
import Derived.Test.YtogengangfohfaaGreatQ19
import Derived.Test.YtogengangfohfaaGreatQ9
import Derived.Maps.AppendAt
namespace Go.Proofs.YtogengangfohfaaGreat
set_option linter.unusedVariables false
set_option linter.unusedSimpArgs false
set_option linter.unusedSectionVars false
open Go.RowKit

section
variable {P : Program} {md : Region.Mode} {os : List Oper} {Q : Exit → Act → World → Prop} {S : World → Prop}
theorem call2L {i j : Nat} {oi oj : Oper} {fuel : Nat} {listed : Array Bool} {a : Act} {w : World} (hi : os[i]? = some oi) (hj : os[j]? = some oj) (hr : Region.ready md os.toArray listed = [i, j])
    (h : ∀ K' : Act → World → Prop, Shut (∀ a w, S w → (S w → wpAnyH P md os.toArray Q S fuel (listed.setIfInBounds i true) a w) → K' a w) → if Region.wanted oi (yielded os.toArray a.tmps) = true then Oper.wp P oi a w K' Q else K' (a.put oi.dst undef) w)
    (g : ∀ K' : Act → World → Prop, Shut (∀ a w, S w → (S w → wpAnyH P md os.toArray Q S fuel (listed.setIfInBounds j true) a w) → K' a w) → if Region.wanted oj (yielded os.toArray a.tmps) = true then Oper.wp P oj a w K' Q else K' (a.put oj.dst undef) w) :
    wpAnyH P md os.toArray Q S (fuel + 1) listed a w :=
  wpAnyH_ready hr (by simp) (AllReadyH.cons (by simpa using hi) h (AllReadyH.cons (by simpa using hj) g AllReadyH.nil))
end
/-- append of keys to a slice of keys of the call's own: one run. -/
theorem run_appendS {w : World} (ty : TypeId) (base : Nat) (v : Value) (kn : List (List Int)) (hown : OwnS w base v kn) (vx : Value) (ks : List (List Int)) (hv : RdS w vx ks) (hl : kn.length + ks.length ≤ 1000000000) (hbase : base ≤ w.heap.size) :
    ∃ a' c' w', (Builtin.append_ #[25, 25] ty #[v, vx]).run Tryz.prog w = .ok (.slice a' (kn ++ ks).length c') w' ∧ OwnS w' base (.slice a' (kn ++ ks).length c') (kn ++ ks) ∧ Keeps w w' (ownL v) := by
  obtain ⟨j0, hj0, yz0, yz1, yz2⟩ := info_parts Tryz.infoStr
  obtain ⟨A0, m, cp, rfl, hm, hcp, h0, -⟩ := RdW.form hv
  cases A0 with
  | none =>
    obtain ⟨rfl, rfl⟩ := h0 rfl
    obtain rfl : ks = [] := List.eq_nil_of_length_eq_zero hm.symm
    obtain ⟨a1, c1, rfl⟩ := own_form hown
    refine ⟨a1, c1, w, ?_, by simpa using hown, Keeps.refl _ _⟩
    have := run_append_owned_none (P := Tryz.prog) (w := w) base 25 ty 9 j0 1 Tryz.underlying25 hj0 _ _ _ hown
    simpa using this
  | some ad =>
    subst hm
    obtain ⟨v', w', hr, h1, h2, h3, -⟩ := run_append_own_at (P := Tryz.prog) w base 25 ty 9 j0 (.string .empty) 1 16 Tryz.underlying25 hj0 yz0 yz1 yz2 rfl (by decide) v kn.length (cellsW rowS kn) hown ad ks.length cp (cellsW rowS ks) (cellsW_length rowS_len ks) (RdW.news rowS_len (by decide) hv) (cellsW_one rowS_len rowS_one (by decide) ks) (by unfold maxLen; omega) (by omega) hbase
    obtain ⟨a', c', rfl⟩ := own_form h1
    refine ⟨a', c', w', by rw [List.length_append]; exact hr, ?_, Keeps.of_grown h2 (fun k hk => mem_ownL.2 hk)⟩
    unfold OwnS
    rw [List.length_append, cellsW_append rowS_len]
    exact h1

/-- How Keys ends where the samples are valid. -/
def KeyEnd (w : World) (l : List (List Int)) (e : Ending) (w' : World) : Prop :=
  e = .returned (.func (.func 41) #[] #[.pointer (some ⟨w.heap.size, 0, none⟩), .pointer (some ⟨w.heap.size + 1, 0, none⟩)]) ∧ ∃ (m n : Nat) (lv : Value),
    Blk w' w.heap.size #[lv] 25 ∧ OwnS w' (w.heap.size + 2) lv (allK l) ∧ Blk w' (w.heap.size + 1) #[.map (some m)] 80 ∧ MapS w' m n (knownF l) ∧ w.heap.size + 2 ≤ m ∧ Keeps w w' []

set_option maxRecDepth 100000 in
set_option maxHeartbeats 4000000 in
theorem keysfn_any (v : Value) (l : List (List Int)) (w : World) (hv : RdL .u8 w v l) (hb : ∀ b ∈ l, ∀ x ∈ b, 0 ≤ x ∧ x ≤ 255) (hm : mayL l) :
    Calls Tryz.prog 13 #[v] w (KeyEnd w l) := by
  have hmf : ∀ (fn : Fn) (first cap : Array Value) (w : World), (Instr.makeFunc fn first cap).run Tryz.prog w = .ok (.func fn first cap) w := fun _ _ _ _ => rfl
  have k0 : Keeps w ((w.alloc (.cells #[.slice none 0 0] 25)).alloc (.cells #[.map none] 80)) [] := ((Keeps.refl w []).alloc _).alloc _
  have bl := (Blk.new w #[.slice none 0 0] 25).alloc (.cells #[.map none] 80)
  have bk := Blk.new (w.alloc (.cells #[.slice none 0 0] 25)) #[.map none] 80
  simp only [World.size_alloc] at bk
  have hsz : ((w.alloc (.cells #[.slice none 0 0] 25)).alloc (.cells #[.map none] 80)).heap.size = w.heap.size + 2 := by simp
  have HS := Lib.hid (score_any (.slice none 0 0) v [] l _ .nil (by simp) (by simp) (hv.keeps k0) hb (by have := hm.1; omega))
  have hbn : badN l = 0 := by unfold badN; rw [if_pos hm]
  rw [hbn] at HS
  obtain ⟨A0, n0, cp0, rfl, hn0, -⟩ := hv.form
  have hfl := fun w => Tryz.fieldLook (.slice A0 n0 cp0) w rfl
  have HV := Lib.hid hv
  have HN := Lib.hid hn0
  have HB := Lib.hid hb
  have HM := Lib.hid hm
  have HZ := Lib.hid hsz
  have hn1 : n0 ≤ 1024 := by have := hm.1; omega
  have HAK : Hid (∀ i, (allK (l.take i)).length ≤ 134217728) := fun i => by
    have h1 := allK_len (l := l.take i) (m := 131072) (fun b hb => hm.2 b (List.mem_of_mem_take hb))
    have h2 : (l.take i).length ≤ l.length := by rw [List.length_take]; omega
    omega
  clear hv hn0 hb hm hsz hbn
  go_enter Tryz.func13, Tryz.ntmps13
  go_wp2_with fail
  generalize ((w.alloc (.cells #[.slice none 0 0] 25)).alloc (.cells #[.map none] 80)) = W0 at *
  refine HS.out.mono ?_
  rintro e w1 ⟨rfl, k1⟩
  have bl1 := bl.keeps k1 (by simp)
  have bk1 := bk.keeps k1 (by simp)
  have k01 := k0.then k1
  have hs1 : w.heap.size + 2 ≤ w1.heap.size := by have := k1.size; have := HZ.out; omega
  have HK := Lib.hid (known_any _ l w1 (HV.out.keeps k01) HB.out HM.out.1 HM.out.2)
  clear bl bk k0 k1 HS
  go_wp2_with fail
  refine HK.out.mono ?_
  rintro e w2 ⟨rfl, ⟨nk, hnk, mp⟩, k2⟩
  have bl2 := bl1.keeps k2 (by simp)
  have bk2 := bk1.keeps k2 (by simp)
  have k02 := k01.then k2
  have hs2 := k2.size
  have hlm := mp.lt
  obtain ⟨c0, f0⟩ := bk2.one
  have bk3 := bk2.set 0 (.map (some w1.heap.size))
  have ks3 : Keeps w2 (w2.setCell ⟨w.heap.size + 1, 0, none⟩ (.map (some w1.heap.size))) [w.heap.size + 1] := (Keeps.refl w2 [w.heap.size + 1]).setCell (.inr (by simp)) _
  have bl3 := bl2.keeps ks3 (by simp)
  have mp3 := mp.keeps ks3 (by simp; omega)
  have k03 : Keeps w (w2.setCell ⟨w.heap.size + 1, 0, none⟩ (.map (some w1.heap.size))) [] := k02.trans ks3 (fun j hj hlt => by have := List.mem_singleton.1 hj; omega)
  simp only [List.setIfInBounds_toArray, List.set_cons_zero] at bk3
  clear bl1 bk1 k01 HK bl2 bk2 k02 ks3 mp k2
  go_wp2_with fail
  have hs3 : w1.heap.size ≤ (w2.setCell ⟨w.heap.size + 1, 0, none⟩ (.map (some w1.heap.size))).heap.size := by simp; omega
  generalize (w2.setCell ⟨w.heap.size + 1, 0, none⟩ (.map (some w1.heap.size))) = W3 at *
  clear c0 f0
  go_loopw [22] (fun s22 wr => ∃ (i : Nat) (la : Option Addr) (ln lc : Nat), i ≤ n0 ∧ s22 = .int .i64 i ∧ Blk wr w.heap.size #[.slice la ln lc] 25 ∧ Hid (ln = (allK (l.take i)).length) ∧ OwnS wr (w.heap.size + 2) (.slice la ln lc) (allK (l.take i)) ∧ Blk wr (w.heap.size + 1) #[.map (some w1.heap.size)] 80 ∧ MapS wr w1.heap.size nk (knownF l) ∧ Keeps w wr [] ∧ Hid (w1.heap.size ≤ wr.heap.size)) (fun s22 _ => n0 - (intOf s22).toNat)
  case atStart => exact ⟨0, none, 0, 0, Nat.zero_le _, rfl, bl3, rfl, OwnS.nil _ _, bk3, mp3, k03, hs3⟩
  case round =>
    obtain ⟨i, la, ln, lc, hi, rfl, bl, hln, ow, bk, mp, kk, hw1⟩ := hrel
    by_cases hlt : i < n0
    · obtain ⟨b, hbi⟩ : ∃ b, l[i]? = some b := ⟨_, List.getElem?_eq_getElem (by have := HN.out; omega)⟩
      obtain ⟨bb, oo, vi, rfl, hbb, hcc, hri, hcap⟩ := (HV.out.keeps kk).at hbi
      have hii : (i : Int) < (n0 : Int) := by omega
      have hbm := List.mem_of_getElem? hbi
      have hbl := HM.out.2 b hbm
      have HKY := Lib.hid (fun (wx : World) (kx : Keeps wr wx []) => keys_any vi b wx (hri.keeps kx) (HB.out b hbm) (by omega))
      have hkl := keys_len b
      have hst : Hid (allK (l.take (i + 1)) = allK (l.take i) ++ keysL b) := by show _ = _; rw [List.take_add_one, hbi]; exact allK_snoc _ _
      obtain ⟨a2, n2, c2, rfl, -⟩ := hri.form
      obtain ⟨c0, f0⟩ := bl.one
      have hlb := bl.lt
      have hwsz := kk.size
      have hlL : (allK (l.take i)).length + (keysL b).length ≤ 1000000000 := by have := HAK.out i; omega
      have BL := Lib.hid bl
      have BK := Lib.hid bk
      have OW := Lib.hid ow
      have MP := Lib.hid mp
      clear hbi hbm hri bl bk ow mp
      go_wp2_with fail
      refine wp_region_held_drew (S := (fun _ => True)) (by kernel_rfl) trivial (fun hHeld => ?_)
      refine takeL (i := 1) (v := ?_) rfl (by kernel_rfl) (by kernel_rfl) (by kernel_rfl) (fun _ _ _ h => h) (by rfl) ?_ (by assumption) ?_
      rotate_left
      · (intro w hSw; (try dsimp only at hSw); go_simp; (try with_reducible rfl))
      try simp only [Act.put, List.setIfInBounds_toArray, List.set_cons_zero, List.set_cons_succ]
      refine call2L (i := 0) (j := 2) rfl rfl (by kernel_rfl) (fun Kont hK => ?_) (fun Kont hK => ?_)
      · go_simp
        refine hK.out _ _ trivial (fun hHeld => ?_)
        clear hK Kont
        refine callL (i := 2) rfl (by kernel_rfl) (fun Kont hK => ?_)
        go_simp
        refine (HKY.out wr.drew (Keeps.refl wr []).drew).mono ?_
        rintro e w4 ⟨kv, rfl, kown, k4⟩
        have k4' : Keeps wr w4 [] := ((Keeps.refl wr []).drew).then k4
        have c4 := (k4'.cell (p := ⟨w.heap.size, 0, none⟩) hlb (by simp)).trans c0
        go_wp2_with fail
        refine hK.out _ _ trivial (fun hHeld => ?_)
        clear hK Kont
        obtain ⟨a5, c5, w5, hrun, ow5, k5⟩ := run_appendS 25 (w.heap.size + 2) (.slice la ln lc) (allK (l.take i)) (OW.out.keeps k4') kv (keysL b) kown.reads hlL (by have := k4'.size; have := hw1.out; omega)
        have hge : ∀ j, j ∈ ownL (.slice la ln lc) → w.heap.size + 2 ≤ j := fun j hj => (World.ownsRow.lt OW.out j (mem_ownL.1 hj)).1
        have bl5 : Blk w5 w.heap.size #[.slice la ln lc] 25 := (BL.out.keeps k4' (by simp)).keeps k5 (fun hm => by have := hge _ hm; omega)
        have bk5 : Blk w5 (w.heap.size + 1) #[.map (some w1.heap.size)] 80 := (BK.out.keeps k4' (by simp)).keeps k5 (fun hm => by have := hge _ hm; omega)
        have mp5 : MapS w5 w1.heap.size nk (knownF l) := (MP.out.keeps k4' (by simp)).keeps k5 (fun hm => by
          have hg := mem_ownL.1 hm
          obtain ⟨D, ⟨es, clock, hbm, r⟩, h2⟩ := MP.out
          exact own_neO OW.out hbm (by intro cs h; cases h) hg)
        have kk5 : Keeps w w5 [] := (kk.then k4').trans k5 (fun j hj hlt => by have := hge j hj; omega)
        obtain ⟨c5', f5'⟩ := bl5.one
        have hw5 : Hid (w1.heap.size ≤ w5.heap.size) := by show _ ≤ _; have := hw1.out; have := k4'.size; have := k5.size; omega
        rw [← hst.out] at hrun ow5
        refine callL (i := 3) rfl (by kernel_rfl) (fun Kont hK => ?_)
        refine step_append_run rfl _ _ 25 rfl rfl rfl hrun ?_
        simp only [Act.put, List.setIfInBounds_toArray, List.set_cons_zero, List.set_cons_succ]
        refine hK.out _ _ trivial (fun hHeld => ?_)
        clear hK Kont
        have bl6 := bl5.set 0 (.slice a5 (allK (l.take (i + 1))).length c5)
        simp only [List.setIfInBounds_toArray, List.set_cons_zero] at bl6
        have ks6 : Keeps w5 (w5.setCell ⟨w.heap.size, 0, none⟩ (.slice a5 (allK (l.take (i + 1))).length c5)) [w.heap.size] := (Keeps.refl w5 [w.heap.size]).setCell (.inr (by simp)) _
        have ow6 : OwnS (w5.setCell ⟨w.heap.size, 0, none⟩ (.slice a5 (allK (l.take (i + 1))).length c5)) (w.heap.size + 2) (.slice a5 (allK (l.take (i + 1))).length c5) (allK (l.take (i + 1))) := own_keepsS ow5 ks6 (fun j hj => by have := List.mem_singleton.1 hj; omega)
        have bk6 := bk5.keeps ks6 (by simp)
        have mp6 := mp5.keeps ks6 (by simp; omega)
        have kk6 := kk5.trans ks6 (fun j hj hlt => by have := List.mem_singleton.1 hj; omega)
        have hw6 : Hid (w1.heap.size ≤ (w5.setCell ⟨w.heap.size, 0, none⟩ (.slice a5 (allK (l.take (i + 1))).length c5)).heap.size) := by show _ ≤ _; simp; exact hw5.out
        have cS : (w5.setCell ⟨w.heap.size, 0, none⟩ (.slice a5 (allK (l.take (i + 1))).length c5)).cell? ⟨w.heap.size, 0, none⟩ = some (.slice a5 (allK (l.take (i + 1))).length c5) := bl6.cell 0
        refine callL (i := 4) rfl (by kernel_rfl) (fun Kont hK => ?_)
        go_simp
        refine hK.out _ _ trivial (fun hHeld => ?_)
        clear hK Kont
        refine wpAnyH_done (by kernel_rfl) ?_ _
        go_wp2_with fail
        go_roundw
        case rel => exact ⟨i + 1, a5, _, c5, by omega, by go_num, bl6, rfl, ow6, bk6, mp6, kk6, hw6⟩
        case measure => simp [intOf]; omega
      · go_simp
        refine (HKY.out wr.drew (Keeps.refl wr []).drew).mono ?_
        rintro e w4 ⟨kv, rfl, kown, k4⟩
        have k4' : Keeps wr w4 [] := ((Keeps.refl wr []).drew).then k4
        have c4 := (k4'.cell (p := ⟨w.heap.size, 0, none⟩) hlb (by simp)).trans c0
        go_wp2_with fail
        refine hK.out _ _ trivial (fun hHeld => ?_)
        clear hK Kont
        refine callL (i := 0) rfl (by kernel_rfl) (fun Kont hK => ?_)
        go_simp
        refine hK.out _ _ trivial (fun hHeld => ?_)
        clear hK Kont
        obtain ⟨a5, c5, w5, hrun, ow5, k5⟩ := run_appendS 25 (w.heap.size + 2) (.slice la ln lc) (allK (l.take i)) (OW.out.keeps k4') kv (keysL b) kown.reads hlL (by have := k4'.size; have := hw1.out; omega)
        have hge : ∀ j, j ∈ ownL (.slice la ln lc) → w.heap.size + 2 ≤ j := fun j hj => (World.ownsRow.lt OW.out j (mem_ownL.1 hj)).1
        have bl5 : Blk w5 w.heap.size #[.slice la ln lc] 25 := (BL.out.keeps k4' (by simp)).keeps k5 (fun hm => by have := hge _ hm; omega)
        have bk5 : Blk w5 (w.heap.size + 1) #[.map (some w1.heap.size)] 80 := (BK.out.keeps k4' (by simp)).keeps k5 (fun hm => by have := hge _ hm; omega)
        have mp5 : MapS w5 w1.heap.size nk (knownF l) := (MP.out.keeps k4' (by simp)).keeps k5 (fun hm => by
          have hg := mem_ownL.1 hm
          obtain ⟨D, ⟨es, clock, hbm, r⟩, h2⟩ := MP.out
          exact own_neO OW.out hbm (by intro cs h; cases h) hg)
        have kk5 : Keeps w w5 [] := (kk.then k4').trans k5 (fun j hj hlt => by have := hge j hj; omega)
        obtain ⟨c5', f5'⟩ := bl5.one
        have hw5 : Hid (w1.heap.size ≤ w5.heap.size) := by show _ ≤ _; have := hw1.out; have := k4'.size; have := k5.size; omega
        rw [← hst.out] at hrun ow5
        refine callL (i := 3) rfl (by kernel_rfl) (fun Kont hK => ?_)
        refine step_append_run rfl _ _ 25 rfl rfl rfl hrun ?_
        simp only [Act.put, List.setIfInBounds_toArray, List.set_cons_zero, List.set_cons_succ]
        refine hK.out _ _ trivial (fun hHeld => ?_)
        clear hK Kont
        have bl6 := bl5.set 0 (.slice a5 (allK (l.take (i + 1))).length c5)
        simp only [List.setIfInBounds_toArray, List.set_cons_zero] at bl6
        have ks6 : Keeps w5 (w5.setCell ⟨w.heap.size, 0, none⟩ (.slice a5 (allK (l.take (i + 1))).length c5)) [w.heap.size] := (Keeps.refl w5 [w.heap.size]).setCell (.inr (by simp)) _
        have ow6 : OwnS (w5.setCell ⟨w.heap.size, 0, none⟩ (.slice a5 (allK (l.take (i + 1))).length c5)) (w.heap.size + 2) (.slice a5 (allK (l.take (i + 1))).length c5) (allK (l.take (i + 1))) := own_keepsS ow5 ks6 (fun j hj => by have := List.mem_singleton.1 hj; omega)
        have bk6 := bk5.keeps ks6 (by simp)
        have mp6 := mp5.keeps ks6 (by simp; omega)
        have kk6 := kk5.trans ks6 (fun j hj hlt => by have := List.mem_singleton.1 hj; omega)
        have hw6 : Hid (w1.heap.size ≤ (w5.setCell ⟨w.heap.size, 0, none⟩ (.slice a5 (allK (l.take (i + 1))).length c5)).heap.size) := by show _ ≤ _; simp; exact hw5.out
        have cS : (w5.setCell ⟨w.heap.size, 0, none⟩ (.slice a5 (allK (l.take (i + 1))).length c5)).cell? ⟨w.heap.size, 0, none⟩ = some (.slice a5 (allK (l.take (i + 1))).length c5) := bl6.cell 0
        refine callL (i := 4) rfl (by kernel_rfl) (fun Kont hK => ?_)
        go_simp
        refine hK.out _ _ trivial (fun hHeld => ?_)
        clear hK Kont
        refine wpAnyH_done (by kernel_rfl) ?_ _
        go_wp2_with fail
        go_roundw
        case rel => exact ⟨i + 1, a5, _, c5, by omega, by go_num, bl6, rfl, ow6, bk6, mp6, kk6, hw6⟩
        case measure => simp [intOf]; omega
    · have hii : decide ((i : Int) < (n0 : Int)) = false := decide_eq_false (by omega)
      have hall : l.take i = l := List.take_of_length_le (by have := HN.out; omega)
      rw [hall] at ow
      go_wp2_with fail
      go_ret
      exact ⟨rfl, w1.heap.size, nk, _, bl, ow, bk, mp, by omega, kk⟩


end Go.Proofs.YtogengangfohfaaGreat
