/-
  The reference of training: Content.
-/
import Derived.Test.YtogengangfohfaaGreatQ25
import Derived.Test.YtogengangfohfaaGreatQ19
import Derived.Deep.LoopGhost
import Derived.Test.YtogengangfohfaaGreatQ22
namespace Go.Proofs.YtogengangfohfaaGreat
set_option linter.unusedVariables false
set_option linter.unusedSimpArgs false
set_option linter.unusedSectionVars false
open Go.RowKit

theorem rcont_bad (v : Value) (l : List (List Int)) (size : Int) (w : World) (hv : RdL .u8 w v l) (hll : l.length ≤ 1000000000) (hbad : ¬ (mayL l ∧ 8 ≤ size ∧ size ≤ 134217728)) :
    Calls Tryz.prog 20 #[v, .int .i64 size] w fun e w' => e = .returned (.tuple #[.slice none 0 0, .int .i64 2]) ∧ Keeps w w' [] := by
  have HP := Lib.hid (rpieces_any v l w hv hll)
  obtain ⟨A1, n1, cp1, rfl, -, -⟩ := hv.form
  have HB := Lib.hid hbad
  clear hv hbad
  by_cases h8 : size < 8
  · go_enter Tryz.func20, Tryz.ntmps20
    go_wp2_with fail
    refine HP.out.mono ?_
    rintro e w1 ⟨k1, (⟨hm, v1, vs, rfl, -, -⟩ | ⟨hm, rfl⟩)⟩
    · clear hm HB HP
      go_wp2_with fail
      go_ret2
      exact ⟨rfl, k1⟩
    · clear hm HB HP
      go_wp2_with fail
      go_ret2
      exact ⟨rfl, k1⟩
  · have h8' : decide (size < 8) = false := decide_eq_false h8
    by_cases h9 : 134217728 < size
    · go_enter Tryz.func20, Tryz.ntmps20
      go_wp2_with fail
      refine HP.out.mono ?_
      rintro e w1 ⟨k1, (⟨hm, v1, vs, rfl, -, -⟩ | ⟨hm, rfl⟩)⟩
      · clear hm HB HP
        go_wp2_with fail
        go_ret2
        exact ⟨rfl, k1⟩
      · clear hm HB HP
        go_wp2_with fail
        go_ret2
        exact ⟨rfl, k1⟩
    · go_enter Tryz.func20, Tryz.ntmps20
      go_wp2_with fail
      refine HP.out.mono ?_
      rintro e w1 ⟨k1, (⟨hm, v1, vs, rfl, -, -⟩ | ⟨hm, rfl⟩)⟩
      · exact absurd ⟨hm, by omega, by omega⟩ HB.out
      · clear hm HB HP
        go_wp2_with fail
        go_ret2
        exact ⟨rfl, k1⟩

/-- The best piece of the first i. -/
def BestI (c : List Int → Nat) (P : List (List Int)) (size : Nat) (out : List Int) (kn : List (List Int)) (i : Nat) (best most : Int) : Prop :=
  (best = -1 ∧ most = 0 ∧ ∀ (j : Nat) (p : List Int), j < i → P[j]? = some p → p.length + out.length ≤ size → wkL c kn p = 0) ∨
  (∃ (b : Nat) (p : List Int), best = b ∧ b < i ∧ P[b]? = some p ∧ p.length + out.length ≤ size ∧ 0 < wkL c kn p ∧ most = (wkL c kn p : Nat) ∧
    ∀ (j : Nat) (r : List Int), j < i → P[j]? = some r → r.length + out.length ≤ size → wkL c kn r < wkL c kn p ∨ wkL c kn r = wkL c kn p ∧ b ≤ j)
section
variable {c : List Int → Nat} {P : List (List Int)} {size : Nat} {out : List Int} {kn : List (List Int)} {i : Nat} {best most : Int} {x : List Int}
theorem BestI.start : BestI c P size out kn 0 (-1) 0 := .inl ⟨rfl, rfl, fun j p h => by omega⟩
theorem BestI.skip (h : BestI c P size out kn i best most) (hx : P[i]? = some x) (hs : size < x.length + out.length ∨ (wkL c kn x : Int) ≤ most) : BestI c P size out kn (i + 1) best most := by
  rcases h with ⟨h1, h2, h3⟩ | ⟨b, p, h1, h0, h2, h3, h4, h5, h6⟩
  · refine .inl ⟨h1, h2, fun j p hj hp hf => ?_⟩
    by_cases e : j = i
    · subst e; rw [hx] at hp; cases hp; omega
    · exact h3 j p (by omega) hp hf
  · refine .inr ⟨b, p, h1, by omega, h2, h3, h4, h5, fun j r hj hp hf => ?_⟩
    by_cases e : j = i
    · subst e; rw [hx] at hp; cases hp
      omega
    · exact h6 j r (by omega) hp hf
theorem BestI.take (h : BestI c P size out kn i best most) (hx : P[i]? = some x) (hf : x.length + out.length ≤ size) (hm : most < (wkL c kn x : Int)) : BestI c P size out kn (i + 1) (i : Int) (wkL c kn x : Nat) := by
  refine .inr ⟨i, x, rfl, Nat.lt_succ_self _, hx, hf, ?_, rfl, fun j r hj hp hfr => ?_⟩
  · rcases h with ⟨h1, h2, h3⟩ | ⟨b, p, h1, h0, h2, h3, h4, h5, h6⟩ <;> omega
  · by_cases e : j = i
    · subst e; rw [hx] at hp; cases hp; exact .inr ⟨rfl, Nat.le_refl _⟩
    · left
      rcases h with ⟨h1, h2, h3⟩ | ⟨b, p, h1, h0, h2, h3, h4, h5, h6⟩
      · have := h3 j r (by omega) hp hfr; omega
      · have := h6 j r (by omega) hp hfr; omega
end

/-- append of keys to a slice of keys of the call's own. -/
theorem wpList_appendS {w : World} {ops : Array Oper} {rest : List Oper} {o : Oper} {a : Act} {Q : Exit → Act → World → Prop} (hgd : o.guard = none) (s x : Operand)
    (ho : o.op = .call { callee := .builtin .append, args := #[s, x], argTypes := #[25, 25] }) (base : Nat) (v : Value) (kn : List (List Int)) (hs : a.eval s = v) (hown : OwnS w base v kn) (vx : Value) (hx : a.eval x = vx) (ks : List (List Int)) (hv : RdS w vx ks)
    (hl : kn.length + ks.length ≤ 1000000000) (hbase : base ≤ w.heap.size)
    (h : ∀ a' c' w', OwnS w' base (.slice a' (kn ++ ks).length c') (kn ++ ks) → Keeps w w' (ownL v) → wpList Tryz.prog ops Q rest (a.put o.dst (.slice a' (kn ++ ks).length c')) w') : wpList Tryz.prog ops Q (o :: rest) a w := by
  obtain ⟨j0, hj0, yz0, yz1, yz2⟩ := info_parts Tryz.infoStr
  obtain ⟨A0, m, cp, rfl, hm, hcp, h0, -⟩ := RdW.form hv
  cases A0 with
  | none =>
    obtain ⟨rfl, rfl⟩ := h0 rfl
    obtain rfl : ks = [] := List.eq_nil_of_length_eq_zero hm.symm
    obtain ⟨a1, c1, rfl⟩ := own_form hown
    refine wpList_append_own_none hgd s x _ ho base 9 j0 1 Tryz.underlying25 hj0 _ _ _ hs hown hx ?_
    have := h a1 c1 w (by simpa using hown) (Keeps.refl _ _)
    simpa using this
  | some ad =>
    subst hm
    refine wpList_append_own w hgd s x _ ho base 9 j0 (.string .empty) 1 16 Tryz.underlying25 hj0 yz0 yz1 yz2 rfl (by decide) v kn.length (cellsW rowS kn) hs hown ad ks.length cp (cellsW rowS ks) hx (cellsW_length rowS_len ks) (RdW.news rowS_len (by decide) hv) (cellsW_one rowS_len rowS_one (by decide) ks) (by unfold maxLen; omega) (by omega) hbase ?_
    intro v' w' h1 h2 h3
    obtain ⟨a', c', rfl⟩ := own_form h1
    have := h a' c' w' (by unfold OwnS; rw [List.length_append, cellsW_append rowS_len]; exact h1) (Keeps.of_grown h2 (fun k hk => mem_ownL.2 hk))
    rw [List.length_append] at this
    exact this

/-- How the reference's Content ends. -/
def RCEnd (w : World) (l : List (List Int)) (size : Nat) (e : Ending) (w' : World) : Prop :=
  ∃ v out, e = .returned (.tuple #[v, .int .i64 0]) ∧ RdI .u8 w' v out ∧ Greedy (cntL l) (piecesL l) size [] [] out ∧ Keeps w w' []

set_option maxRecDepth 100000 in
set_option maxHeartbeats 4000000 in
theorem rcont_ok (v : Value) (l : List (List Int)) (size : Nat) (w : World) (hv : RdL .u8 w v l) (hb : ∀ b ∈ l, ∀ x ∈ b, 0 ≤ x ∧ x ≤ 255) (hm : mayL l) (h8 : 8 ≤ size) (h9 : size ≤ 134217728) :
    Calls Tryz.prog 20 #[v, .int .i64 (size : Int)] w (RCEnd w l size) := by
  obtain ⟨i0, hi0, hz0, hz1, hz2⟩ := info_parts Tryz.infoByte
  obtain ⟨j0, hj0, yz0, yz1, yz2⟩ := info_parts Tryz.infoStr
  have HP := Lib.hid (rpieces_any v l w hv (by have := hm.1; omega))
  obtain ⟨A1, n1, cp1, rfl, -, -⟩ := hv.form
  have HV := Lib.hid hv
  have HB := Lib.hid hb
  have HM := Lib.hid hm
  clear hv hb hm
  have h8' : decide ((size : Int) < 8) = false := decide_eq_false (by omega)
  have h9' : decide ((134217728 : Int) < (size : Int)) = false := decide_eq_false (by omega)
  go_enter Tryz.func20, Tryz.ntmps20
  go_wp2_with fail
  refine HP.out.mono ?_
  rintro e w1 ⟨k1, (⟨-, v1, vs, rfl, ow1, rv1⟩ | ⟨hno, rfl⟩)⟩
  rotate_left
  · exact absurd HM.out hno
  obtain ⟨a1, c1, rfl⟩ := own_form ow1
  obtain ⟨P, hP⟩ : ∃ P, P = piecesL l := ⟨_, rfl⟩
  have hPb : ∀ p ∈ P, ∀ x ∈ p, 0 ≤ x ∧ x ≤ 255 := fun p hp x hx => by
    rw [hP] at hp
    obtain ⟨-, -, b, hbl, hpc⟩ := mem_pieces hp
    exact chunk_byte (HB.out b hbl) hpc x hx
  have hPs : ∀ p ∈ P, p.length ≤ 32 ∧ 6 ≤ p.length := fun p hp => by
    rw [hP] at hp
    obtain ⟨h1, h2, -⟩ := mem_pieces hp
    exact ⟨h2, h1⟩
  have hPn : P.length ≤ 300000000 := by
    rw [hP]
    have h1 := longP_len (allP l)
    have h2 : (allP l).length ≤ l.length * 131073 := allP_len HM.out.2
    have h3 := HM.out.1
    unfold piecesL
    omega
  rw [← hP] at rv1
  have hvl : vs.length = P.length := rv1.1
  obtain ⟨N, hN⟩ : ∃ N, N = vs.length := ⟨_, rfl⟩
  rw [← hN] at ow1 hvl ⊢
  have HN := Lib.hid hN
  have HVL := Lib.hid hvl
  have HPP := Lib.hid hP
  have HPB := Lib.hid hPb
  have HPS := Lib.hid hPs
  have OW1 := Lib.hid ow1
  have RV1 := Lib.hid rv1
  have HV1 := Lib.hid (HV.out.keeps k1)
  have K1 := Lib.hid k1
  have hN1 : N ≤ 300000000 := by omega
  obtain ⟨c, hc⟩ : ∃ c, c = cntL l := ⟨_, rfl⟩
  have hcb : ∀ k, c k ≤ 1024 := fun k => by rw [hc]; have := cnt_le l k; have := HM.out.1; omega
  have HCB := Lib.hid hcb
  have HC := Lib.hid hc
  clear HP hP hPb hPs hPn hvl hN ow1 rv1 k1 hcb hc
  go_wp2_with fail
  go_loopg [8, 9] size (fun k s8 s9 wr => ∃ (out : List Int) (kn : List (List Int)) (oa : Option Addr) (on oc : Nat) (ka : Option Addr) (kc kl : Nat), Hid (k = size - on) ∧ Hid (on = out.length) ∧ on ≤ size ∧ s8 = .slice oa on oc ∧ s9 = .slice ka kl kc ∧ RdI .u8 wr s8 out ∧ InB wr s8 ∧ Hid (kl = kn.length) ∧ kl ≤ on ∧ OwnS wr w1.heap.size s9 kn ∧ Keeps w1 wr [] ∧
    Hid (∀ k ∈ kn, KeyWf k) ∧ Hid (∀ res, Greedy c P size out kn res → Greedy c P size [] [] res))
  case atStart => exact ⟨[], [], none, 0, 0, none, 0, 0, rfl, rfl, Nat.zero_le _, rfl, rfl, .nil, fun ad n c e => (by cases e), rfl, Nat.zero_le _, OwnS.nil _ _, Keeps.refl _ _, (by intro k h; cases h), fun _ h => h⟩
  case round =>
    obtain ⟨out, kn, oa, on, oc, ka, kc, kl, hk, hon, hos, rfl, rfl, rd, ib, hkl, hkl2, own, kk, hkw, hgr⟩ := hrel
    have RD := Lib.hid rd
    have IB := Lib.hid ib
    have OWN := Lib.hid own
    clear rd ib own
    go_wp2_with fail
    go_loopw [10, 11, 12] (fun s10 s11 s12 wx => ∃ (i : Nat) (best most : Int), i ≤ N ∧ s12 = .int .i64 i ∧ s10 = .int .i64 best ∧ s11 = .int .i64 most ∧ Hid (BestI c P size out kn i best most) ∧ Keeps wr wx []) (fun _ _ s12 _ => N - (intOf s12).toNat)
    case atStart => exact ⟨0, -1, 0, Nat.zero_le _, rfl, rfl, rfl, BestI.start, Keeps.refl _ _⟩
    case round =>
      obtain ⟨i, best, most, hi, rfl, rfl, rfl, hbest, kx⟩ := hrel
      by_cases hlt : i < N
      · obtain ⟨x, hx⟩ : ∃ b, P[i]? = some b := ⟨_, List.getElem?_eq_getElem (by have := HVL.out; omega)⟩
        obtain ⟨xv, hxv, hxr⟩ := RV1.out.2 i x hx
        obtain ⟨-, hcap, g, rfl, hg, hcell0⟩ := OwnV.at OW1.out hxv
        have hii : (i : Int) < (N : Int) := by omega
        have k1x : Keeps w1 wr [] := kk.then kx
        have hcell := (k1x.cell (p := ⟨g, i, none⟩) hg (by simp)).trans hcell0
        have hxm := List.mem_of_getElem? hx
        obtain ⟨xa, xn, xc, rfl, hxn, -⟩ := hxr.form
        have hxs := (HPS.out x hxm).1
        have HXX := Lib.hid hx
        have HXN := Lib.hid hxn
        have hxn2 : xn ≤ 32 := by omega
        by_cases hfit : size < xn + on
        · have hfit' : (size : Int) - (on : Int) < (xn : Int) := by omega
          have hb2 : Hid (BestI c P size out kn (i + 1) best most) := hbest.out.skip hx (.inl (by have := hon.out; omega))
          clear hx hxv hxr hxm hxn hcell0
          go_wp2_with fail
          go_roundw
          case rel => exact ⟨i + 1, best, most, by omega, by go_num, rfl, rfl, hb2, kx⟩
          case measure => simp [intOf]; omega
        · have hfit' : decide ((size : Int) - (on : Int) < (xn : Int)) = false := decide_eq_false (by omega)
          have HWO := Lib.hid (rworth_any (.slice xa xn xc) (.slice A1 n1 cp1) (.slice ka kl kc) x l kn wr (hxr.keeps k1x) (HPB.out x hxm) (by omega) (HV1.out.keeps k1x) HB.out HM.out.1 HM.out.2 (RdW.keep (OwnS.reads OWN.out) kx) hkw.out (by have := hkl.out; omega))
          rw [← HC.out] at HWO
          have hwb := wk_bound HCB.out kn x
          obtain ⟨X, hX⟩ : ∃ X, X = wkL c kn x := ⟨_, rfl⟩
          rw [← hX] at HWO hwb
          have hXb : X ≤ 32768 := by omega
          have HX := Lib.hid hX
          have hfit2 : x.length + out.length ≤ size := by have := hon.out; omega
          by_cases hmost : most < (X : Int)
          · have hb2 : Hid (BestI c P size out kn (i + 1) (i : Int) (X : Int)) := by
              have h := hbest.out.take hx hfit2 (by rw [← HX.out]; exact hmost)
              rw [← HX.out] at h
              exact h
            clear hx hxv hxr hxm hxn hcell0 hX hwb
            go_wp2_with fail
            refine HWO.out.mono ?_
            rintro e w5 ⟨rfl, k5⟩
            have kx5 := kx.then k5
            go_wp2_with fail
            go_roundw
            case rel => exact ⟨i + 1, (i : Int), (X : Int), by omega, by go_num, rfl, rfl, hb2, kx5⟩
            case measure => simp [intOf]; omega
          · have hmost' : decide (most < (X : Int)) = false := decide_eq_false hmost
            have hb2 : Hid (BestI c P size out kn (i + 1) best most) := hbest.out.skip hx (.inr (by rw [← HX.out]; omega))
            clear hx hxv hxr hxm hxn hcell0 hX hwb
            go_wp2_with fail
            refine HWO.out.mono ?_
            rintro e w5 ⟨rfl, k5⟩
            have kx5 := kx.then k5
            go_wp2_with fail
            go_roundw
            case rel => exact ⟨i + 1, best, most, by omega, by go_num, rfl, rfl, hb2, kx5⟩
            case measure => simp [intOf]; omega
      · have hii : decide ((i : Int) < (N : Int)) = false := decide_eq_false (by omega)
        obtain rfl : i = N := by omega
        rcases hbest.out with ⟨rfl, rfl, hno⟩ | ⟨b, p, rfl, hb0, hbP, hbf, hb1, rfl, hball⟩
        · have hstop : Greedy c P size out kn out := .stop fun j p hj hf => hno j p (by have := (List.getElem?_eq_some_iff.1 hj).1; have := HVL.out; omega) hj hf
          have hfin : Hid (Greedy (cntL l) (piecesL l) size [] [] out) := by
            show Greedy _ _ _ _ _ _
            rw [← HC.out, ← HPP.out]
            exact hgr.out out hstop
          have HR := Lib.hid (RD.out.keeps kx)
          have KF := Lib.hid ((K1.out.then kk).then kx)
          clear hno hstop
          go_wp2_with fail
          go_ret2
          exact ⟨_, out, rfl, HR.out, hfin.out, KF.out⟩
        · obtain ⟨xv, hxv, hxr⟩ := RV1.out.2 b p hbP
          obtain ⟨-, hcap, g, rfl, hg, hcell0⟩ := OwnV.at OW1.out hxv
          have k1x : Keeps w1 wr [] := kk.then kx
          have hcell := (k1x.cell (p := ⟨g, b, none⟩) hg (by simp)).trans hcell0
          have hgw : g < wr.heap.size := by have := k1x.size; omega
          have hpm := List.mem_of_getElem? hbP
          obtain ⟨pa, pn, pc, rfl, hpn, -⟩ := hxr.form
          have hps := HPS.out p hpm
          have hbi : (b : Int) < (i : Int) := by omega
          have hb0' : decide ((b : Int) < 0) = false := decide_eq_false (by omega)
          have hbn : 0 ≤ (b : Int) := Int.natCast_nonneg _
          have HRP := Lib.hid hxr
          have HKE := Lib.hid (fun (wy : World) (ky : Keeps w1 wy []) => rkeys_any (.slice pa pn pc) p wy (hxr.keeps ky) (HPB.out p hpm) (by omega))
          have RD2 := Lib.hid (RD.out.keeps kx)
          have hpick : Hid (∀ res, Greedy c P size (p ++ out) (kn ++ keysL p) res → Greedy c P size [] [] res) := fun res hr => hgr.out res (.pick b p hbP hbf hb1 (fun j r hj hf => hball j r (by have := (List.getElem?_eq_some_iff.1 hj).1; have := HVL.out; omega) hj hf) hr)
          have hpl : Hid (pn = p.length) := hpn
          have hkw2 : Hid (∀ k ∈ kn ++ keysL p, KeyWf k) := fun k hk => by
            rcases List.mem_append.1 hk with hk | hk
            · exact hkw.out k hk
            · exact keys_wf (HPB.out p hpm) hk
          have hkpl := keys_len p
          have hps1 := hps.1
          have hps2 := hps.2
          have hpn6 : 6 ≤ pn ∧ pn ≤ 32 := by omega
          have hfit2 : pn + on ≤ size := by have := hon.out; omega
          have KK := Lib.hid kk
          have KX := Lib.hid k1x
          have KX2 := Lib.hid kx
          clear hball hbP hxv hxr hcell0 hpm hps hpn kx
          obtain ⟨hpn6a, hpn6b⟩ := hpn6
          go_wp2_with (first
            | (with_reducible refine wpList_build0 rfl 33 5 rfl i0 (.int .u8 0) 1 Tryz.underlying33 hi0 hz0 ?_; intro v0 hown0 hv0 hne0; have kA : Keeps wr (wr.alloc (.cells #[] 5)) [] := (Keeps.refl wr []).alloc _)
            | (at_builtin; with_reducible refine wpList_appendI rfl (.tmp 60) (.tmp 64) 33 rfl wr.heap.size 5 i0 (.int .u8 0) 1 Tryz.underlying33 hi0 hz0 hz1 hz2 rfl v0 0 [] rfl hown0 (.slice pa pn pc) rfl .u8 p ((HRP.out.keeps KX.out).keeps kA) (by unfold maxLen; omega) (by omega) (by simp) ?_; intro v2 w2 own2 gr2 hn2; have kB : Keeps wr w2 [] := kA.trans (Keeps.of_grown (S := ownL v0) gr2 (fun k hk => mem_ownL.2 hk)) (fun j hj hlt => by have h1 := mem_ownL.1 hj; rw [hv0] at h1; cases h1; omega))
            | (at_builtin; with_reducible refine wpList_appendI rfl (.tmp 65) (.tmp 66) 33 rfl wr.heap.size 5 i0 (.int .u8 0) 1 Tryz.underlying33 hi0 hz0 hz1 hz2 rfl v2 _ _ rfl own2 (.slice oa on oc) rfl .u8 out (RD2.out.keeps kB) (by unfold maxLen; omega) (by omega) kB.size ?_; intro v3 w3 own3 gr3 hn3; have kC : Keeps wr w3 [] := kB.trans (Keeps.of_grown (S := ownL v2) gr3 (fun k hk => mem_ownL.2 hk)) (fun j hj hlt => by have h1 := (World.ownsRow.lt own2 j (mem_ownL.1 hj)).1; omega); obtain ⟨a3, c3, rfl⟩ := own_form own3; have hcell3 := (kC.cell (p := ⟨g, b, none⟩) hgw (by simp)).trans hcell; have hks3 := kC.size)
            | (go_at_call 36; refine (HKE.out _ (KX.out.then kC)).mono ?_; rintro e w4 ⟨kv, rfl, kown, k4⟩; have kD := kC.then k4)
            | (at_builtin; go_loud (with_reducible refine wpList_appendS rfl (.tmp 68) (.tmp 73) rfl w1.heap.size (.slice ka kl kc) kn rfl (OwnS.keeps OWN.out (KX2.out.then kD)) kv rfl (keysL p) kown.reads (by have := hkl.out; omega) (by have := KX.out.size; have := kD.size; omega) ?_; intro a5 c5 w5 own5 k5)))
          have o3 : w3.ownsRow wr.heap.size 5 1 (.slice a3 (p ++ out).length c3) (p ++ out).length ((p ++ out).map (.int .u8)) := by
            have h := own3
            simp only [List.nil_append, Nat.zero_add, ← List.map_append, ← List.length_append] at h
            exact h
          have rd3 : RdI .u8 w3 (.slice a3 (p ++ out).length c3) (p ++ out) := own_reads o3
          have ib3 : InB w3 (.slice a3 (p ++ out).length c3) := fun ad n c he h0 => by
            rcases o3.2 with ⟨e, -⟩ | ⟨g, cp, cur, e, -, hg, -⟩
            · rw [e] at he; cases he
            · rw [e] at he; cases he; exact ⟨_, hg⟩
          have nb5 : NoB w4 (ownL (.slice ka kl kc)) := NoB.own (OwnS.keeps OWN.out (KX2.out.then kD)) (by decide)
          have rd5 := (rd3.keeps k4).keepsB (ib3.keeps k4 NoB.nil) k5 nb5
          have ib5 := (ib3.keeps k4 NoB.nil).keeps k5 nb5
          have hpo : (p ++ out).length = pn + on := by rw [List.length_append]; have := hpl.out; have := hon.out; omega
          have hge5 : ∀ j, j ∈ ownL (.slice ka kl kc) → w1.heap.size ≤ j := fun j hj => (World.ownsRow.lt (OwnS.keeps OWN.out (KX2.out.then kD)) j (mem_ownL.1 hj)).1
          have kf : Keeps w1 w5 [] := (KX.out.then kD).trans k5 (fun j hj hlt => by have := hge5 j hj; omega)
          have hkn5 : (kn ++ keysL p).length ≤ pn + on := by rw [List.length_append]; have := hkl.out; have := hpl.out; omega
          simp only [List.length_append] at rd5 ib5 own5 hpo hkn5
          have hf1 : Hid (size - (p.length + out.length) < gk) := by show _ < _; have := hk.out; have := hon.out; omega
          have hf2 : Hid (p.length + out.length = (p ++ out).length) := by show _ = _; rw [List.length_append]
          have hf3 : Hid (kn.length + (keysL p).length = (kn ++ keysL p).length) := by show _ = _; rw [List.length_append]
          have hf4 : p.length + out.length ≤ size := by omega
          have hf5 : kn.length + (keysL p).length ≤ p.length + out.length := by omega
          go_roundg (size - (p.length + out.length))
          case measure => exact hf1.out
          case rel => exact ⟨p ++ out, kn ++ keysL p, a3, p.length + out.length, c3, a5, c5, kn.length + (keysL p).length, rfl, hf2, hf4, rfl, rfl, rd5, ib5, hf3, hf5, own5, kf, hkw2, hpick⟩


end Go.Proofs.YtogengangfohfaaGreat
