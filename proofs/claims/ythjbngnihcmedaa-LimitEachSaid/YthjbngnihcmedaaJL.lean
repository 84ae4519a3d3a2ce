/-
  Walks over package limit: Unlimited.
-/
import Derived.Test.YthjbngnihcmedaaJJ
import Derived.Test.YthjbngnihcmedaaJQ
namespace Go.Proofs.Ythjbngnihcmedaa
set_option linter.unusedVariables false
set_option linter.unusedSimpArgs false
set_option linter.unusedSectionVars false
open Go.RowKit

theorem RdK.reshun {S1 S2 : Shun} {w : World} {v : Value} {l : List Pack} (h : @RdK S1 w v l) (hg : w.heap.size ≤ S2.g) : @RdK S2 w v l := by
  obtain ⟨a, n, cp, rfl, h1, h2, h3, hc⟩ := RdK.form (SH := S1) h
  refine ⟨a, n, cp, rfl, h1, h2, h3, fun h0 => ?_⟩
  obtain ⟨b, o, rfl, hb, hbg, h4⟩ := hc h0
  refine ⟨b, o, rfl, hb, by omega, fun i p hp => ?_⟩
  obtain ⟨e1, vi, e2, e3⟩ := h4 i p hp
  refine ⟨e1, vi, e2, e3.1, fun ad n c he h0 => ?_⟩
  subst he
  obtain ⟨b', o', e', hb', h5⟩ := e3.1.addr h0
  cases e'
  dsimp only
  omega
section
variable [SH : Shun]
theorem RdK.keepG {w w' : World} {v : Value} {l : List Pack} (h : RdK w v l) (k : Keeps w w' [SH.g]) : RdK w' v l := by
  obtain ⟨a, n, cp, rfl, h1, h2, h3, hc⟩ := h.form
  refine ⟨a, n, cp, rfl, h1, h2, h3, fun h0 => ?_⟩
  obtain ⟨b, o, rfl, hb, hbg, h4⟩ := hc h0
  refine ⟨b, o, rfl, Nat.lt_of_lt_of_le hb k.size, hbg, fun i p hp => ?_⟩
  obtain ⟨e1, vi, e2, e3⟩ := h4 i p hp
  exact ⟨(k.cell (p := ⟨b, o + i * 2, none⟩) hb (by simpa using hbg)).trans e1, vi, (k.cell (p := ⟨b, o + i * 2 + 1, none⟩) hb (by simpa using hbg)).trans e2, e3.1.keepsS k (fun ad n c he h0 hm => e3.2 ad n c he h0 (List.mem_singleton.1 hm)), e3.2⟩
theorem pre_reads3K {w : World} {a : Option Addr} {n c m : Nat} {l : List Pack} (h : RdK w (.slice a n c) l) (hm : m ≤ n) : RdK w (.slice a m m) (l.take m) := by
  have hcap := h.cap
  have hlen := h.len
  obtain ⟨a', n', c', he, q1, q2, q3, hc⟩ := h.form
  cases he
  refine ⟨a, m, m, rfl, by simp; omega, by omega, (fun h => by have := q3 h; omega), fun h0 => ?_⟩
  obtain ⟨b, o, e, hb, hbg, h4⟩ := hc (by omega)
  exact ⟨b, o, e, hb, hbg, fun i x hx => h4 i x (by
    rw [List.getElem?_take] at hx
    split at hx
    · exact hx
    · cases hx)⟩
end

set_option maxRecDepth 100000 in
set_option maxHeartbeats 8000000 in
theorem unlimited_yes (v : Value) (l : List Int) (w : World) (hv : RdI .i64 w v l) (hr : rightL l = true) (hu1 : 1 < (usedL l).length) :
    Calls Try.prog 26 #[v] w (ListEnd w (freeOut l) 0) := by
  obtain ⟨SH0, hSH⟩ : ∃ S : Shun, S.g = w.heap.size := ⟨⟨_⟩, rfl⟩
  have hmf : ∀ (fn : Fn) (first cap : Array Value) (w : World), (Instr.makeFunc fn first cap).run Try.prog w = .ok (.func fn first cap) w := fun _ _ _ _ => rfl
  have hl256 := (rightL_iff.1 hr).1
  have HV := Lib.hid hv
  have HR := Lib.hid hr
  have HB0 := Lib.hid (hufB_first hr)
  obtain ⟨A0, n, cp0, rfl, hnl, -⟩ := hv.form
  obtain ⟨i0, hi, hz0, hz1, hz2⟩ := info_parts Try.infoPack
  obtain ⟨j0, hj, yz0, yz1, yz2⟩ := info_parts Try.infoInt
  have HN := Lib.hid hnl
  have hul := usedL_len l
  have hA : Hid (askE l true = 0) := by show _ = _; simp [askE, hr, hu1]
  have HFL : Hid ((firstP l).length = (usedL l).length) := firstP_len l
  obtain ⟨FIN, hFIN⟩ : ∃ FIN, FIN = freeOut l := ⟨_, rfl⟩
  have HFIN : Hid (hufP (usedL l).length (firstP l) (List.replicate n 0) = FIN) := by show _ = _; rw [hFIN, freeOut, hnl]
  rw [← hFIN]
  obtain ⟨N, hN⟩ : ∃ N, N = (usedL l).length := ⟨_, rfl⟩
  rw [← hN] at hu1 hul HFL HFIN
  have hN256 : N ≤ 256 := by omega
  have hn256 : n ≤ 256 := by omega
  clear hv hr hnl hN hFIN
  go_enter_defers Try.func26, Try.ntmps26
  go_wp2_with fail
  have k0 : Keeps w ((w.alloc (.cells #[.slice none 0 0] 22)).alloc (.cells #[.int .i64 0] 26)) [] := ((Keeps.refl w []).alloc _).alloc _
  have bo := (Blk.new w #[.slice none 0 0] 22).alloc (.cells #[.int .i64 0] 26)
  have be := Blk.new (w.alloc (.cells #[.slice none 0 0] 22)) #[.int .i64 0] 26
  simp only [World.size_alloc] at be
  refine (asked_any true _ _ l _ (HV.out.keeps k0) (contains0_any _) (by omega)).mono ?_
  rintro e w1 ⟨h1, -, k1⟩
  obtain rfl := h1 hA.out
  replace bo := bo.keeps k1 (by simp)
  replace be := be.keeps k1 (by simp)
  replace k0 := k0.then k1
  clear k1 h1
  go_wp2_with fail
  refine (first_any _ l _ (HV.out.keeps k0) HR.out (by have := bo.lt; omega)).mono ?_
  rintro e w2 ⟨v2, rfl, o2, k2⟩
  obtain ⟨a2, c2, rfl⟩ := o2.form
  rw [HFL.out] at o2
  have RS := Lib.hid (o2.reads (by have := bo.lt; omega))
  replace bo := bo.keeps k2 (by simp)
  replace be := be.keeps k2 (by simp)
  replace k0 := k0.then k2
  have hG : w.heap.size + 1 < w2.heap.size := be.lt
  clear o2 k2
  rw [HFL.out]
  obtain ⟨w5, hmk, row5, k5⟩ := make_list n (by omega) w2
  have G5 := row5.lt
  have ROW5 := Lib.hid row5
  have bo5 := bo.keeps k5 (by simp)
  have be5 := be.keeps k5 (by simp)
  obtain ⟨q1, q2⟩ := bo5.one
  have NOI : Hid (∀ j x, w2.cell? ⟨w.heap.size, j, none⟩ ≠ some (.int .i64 x)) := fun j x h => by
    have hb := bo.cell j
    rw [h] at hb
    match j, hb with
    | 0, hb => cases hb
    | j + 1, hb => simp at hb
  clear row5
  go_wp2_with fail
  obtain ⟨W6, hW6⟩ : ∃ W6, W6 = w5.setCell ⟨w.heap.size, 0, none⟩ (.slice (some ⟨w2.heap.size, 0, none⟩) n n) := ⟨_, rfl⟩
  have BO6 : Hid (Blk W6 w.heap.size #[.slice (some ⟨w2.heap.size, 0, none⟩) n n] 22) := by rw [hW6]; exact bo5.set 0 _
  have BE6 : Hid (Blk W6 (w.heap.size + 1) #[.int .i64 0] 26) := by rw [hW6]; exact be5.setOther (by dsimp only; omega) _
  have K56 : Keeps w5 W6 [w.heap.size] := by rw [hW6]; exact (Keeps.refl w5 _).setCell (.inr (by simp)) _
  have ROW6 : Hid (RowI W6 w2.heap.size n n (List.replicate n 0)) := ROW5.out.keeps K56 (by simp; omega)
  have K26 : Keeps w2 W6 [w.heap.size] := (k5.mono (S' := [w.heap.size]) (fun _ h => by cases h)).trans K56 (fun x hx _ => hx)
  have K6 : Keeps w W6 [] := k0.trans K26 (fun x hx hlt => by have := List.mem_singleton.1 hx; omega)
  obtain ⟨G, hG2⟩ : ∃ G, G = w2.heap.size := ⟨_, rfl⟩
  obtain ⟨SH, hSH1⟩ : ∃ S : Shun, S.g = G := ⟨⟨_⟩, rfl⟩
  have RS6 : Hid (@RdK SH W6 (.slice a2 N c2) (firstP l)) := RdK.keepO (SH := SH) (RdK.reshun (S1 := SH0) (S2 := SH) RS.out (by omega)) NOI.out K26
  have hG6 : G < W6.heap.size := by have := K56.size; omega
  rw [← hW6]
  rw [← hG2] at BO6 ROW6 hG ⊢
  clear hW6 K56 q1 q2 bo5 be5 ROW5 hmk bo be k5 k0 RS K26 G5 NOI hG2 hSH SH0
  go_loopw [4] (fun s4 wr => ∃ (nr cr : Nat) (ar : Option Addr) (L : PackL) (out : List Int), nr ≤ N ∧ s4 = .slice ar nr cr ∧ Hid (L.length = nr) ∧ Hid (RdK wr (.slice ar nr cr) L) ∧ Hid (HufB l L) ∧ Hid (BdL (256 * (N - nr)) out) ∧ Hid (out.length = n) ∧ Hid (hufP nr L out = FIN) ∧ Hid (RowI wr G n n out) ∧ Hid (Blk wr w.heap.size #[.slice (some ⟨G, 0, none⟩) n n] 22) ∧ Hid (Blk wr (w.heap.size + 1) #[.int .i64 0] 26) ∧ Keeps W6 wr [G]) (fun s4 _ => lenOfV s4)
  case atStart => exact ⟨N, c2, a2, firstP l, List.replicate n 0, Nat.le_refl _, rfl, HFL, RS6, HB0, by show BdL _ _; intro x hx; have := List.eq_of_mem_replicate hx; subst this; omega, by show _ = _; exact List.length_replicate .., HFIN, ROW6, BO6, BE6, Keeps.refl _ _⟩
  case round =>
    obtain ⟨nr, cr, ar, L, out, hnrN, rfl, hLL, hRd, hHB, hBd, hOL, hHF, hRow, hBO, hBE, kw⟩ := hrel
    have hcr := hRd.out.cap
    by_cases hlt : 1 < nr
    · obtain ⟨a, b, r, rfl⟩ : ∃ a b r, L = a :: b :: r := by
        have h := hLL.out
        match L, h with
        | [], h => simp at h; omega
        | [a], h => simp at h; omega
        | a :: b :: r, h => exact ⟨a, b, r, rfl⟩
      have hlI : (1 : Int) < (nr : Int) := by omega
      obtain ⟨QL, hQL⟩ : ∃ QL, QL = a.2 ++ b.2 := ⟨_, rfl⟩
      have HST := Lib.hid (hHB.out.step)
      have HNX : Hid (hufP (nr - 1) (mergedP r [(a.1 + b.1, QL)]) (bumps out QL) = FIN) := by
        show _ = _
        have h := hHF.out
        obtain ⟨k, rfl⟩ : ∃ k, nr = k + 1 := ⟨nr - 1, by omega⟩
        rw [hufP_step] at h
        rw [hQL]
        exact h
      have hQ256 : QL.length ≤ 256 := by
        have h := hHB.out.n
        rw [hQL, List.length_append]
        simp only [sumN] at h
        omega
      have HQS : Hid (∀ s ∈ QL, ∃ j : Nat, s = (j : Int) ∧ j < n) := fun s hs => by
        rw [hQL] at hs
        have e : l.length = n := HN.out.symm
        rw [← e]
        rcases List.mem_append.1 hs with hs | hs
        · exact (hHB.out.all a (by simp)).2.2 s hs
        · exact (hHB.out.all b (by simp)).2.2 s hs
      obtain ⟨ba, oa, va, rfl, hba, -⟩ := hRd.out.at (i := 0) (p := a) rfl
      rw [← hQL] at HST
      have h2c : 2 ≤ cr := by omega
      have h2I : (2 : Int) ≤ (cr : Int) := by omega
      have fa := hHB.out.fine (p := a) (by simp)
      have fb := hHB.out.fine (p := b) (by simp)
      have hszw := kw.size
      have PA := Lib.hid (paired_any 45 _ _ wr (enters_of Try.func45 (by kernel_rfl) rfl) unlimited2_ok (pre_reads3K hRd.out (m := 2) (by omega)) (by simp) (fun p hp => by
        have hp2 : p = a ∨ p = b := by simpa using hp
        rcases hp2 with rfl | rfl
        · exact ⟨fa.1, by omega, fa.2.2.1, by omega⟩
        · exact ⟨fb.1, by omega, fb.2.2.1, by omega⟩) (by omega))
      go_wp2_with fail
      refine PA.out.mono ?_
      rintro e w3 ⟨v3, rfl, o3, k3⟩
      have o3' : OwnK w3 wr.heap.size 68 v3 [(a.1 + b.1, QL)] := by rw [hQL]; exact o3
      obtain ⟨a3, c3, rfl⟩ := o3'.form
      have R3 := o3'.reads (by omega)
      have hk3 := k3.size
      obtain ⟨b3, p3, v4, rfl, hb3, d1, d2, d3⟩ := R3.at (i := 0) (p := (a.1 + b.1, QL)) rfl
      simp only [Nat.zero_mul, Nat.add_zero] at d1 d2
      have hc3 := R3.cap
      obtain ⟨a4, n4, c4, rfl, hn4, -⟩ := d3.1.form
      have R3H := Lib.hid R3
      have D3 := Lib.hid d3
      have hrl : r.length + 2 = nr := by have := hLL.out; simpa using this
      have HRK : Hid (RdK wr (.slice (some ⟨ba, oa, none⟩) nr cr) (a :: b :: r)) := hRd.out
      clear o3 o3' R3 d3 PA hRd hHB hHF hQL
      go_wp2_with fail
      have ROW7 := Lib.hid (hRow.out.keeps k3 (by simp))
      have BO7 := Lib.hid (hBO.out.keeps k3 (by simp))
      have BE7 := Lib.hid (hBE.out.keeps k3 (by simp))
      clear hRow hBO hBE ROW6 BO6 BE6 d1 d2
      obtain ⟨wo, rfl⟩ : ∃ wo : World, wo = wr := ⟨_, rfl⟩
      go_loopw [26] (fun s26 wr => ∃ j : Nat, j ≤ QL.length ∧ s26 = .int .i64 j ∧ Hid (RowI wr G n n (bumps out (QL.take j))) ∧ Hid (Blk wr w.heap.size #[.slice (some ⟨G, 0, none⟩) n n] 22) ∧ Hid (Blk wr (w.heap.size + 1) #[.int .i64 0] 26) ∧ Keeps w3 wr [G]) (fun s26 _ => QL.length - (intOf s26).toNat)
      case atStart => exact ⟨0, Nat.zero_le _, rfl, ROW7, BO7, BE7, Keeps.refl _ _⟩
      case round =>
        obtain ⟨j, hj, rfl, hRow, hBO, hBE, kv⟩ := hrel
        by_cases hlt2 : j < QL.length
        · obtain ⟨sy, hsy⟩ : ∃ sy, QL[j]? = some sy := ⟨_, List.getElem?_eq_getElem hlt2⟩
          obtain ⟨y, rfl, hyn⟩ := HQS.out sy (List.mem_of_getElem? hsy)
          have rix := D3.out.1.keepsS kv (fun ad n c he h0 hm => by have h9 := D3.out.2 ad n c he h0; have := List.mem_singleton.1 hm; omega)
          obtain ⟨b1, o1, rfl, hb1, c1⟩ := rix.at hsy
          have hcap1 := rix.cap
          obtain ⟨x, hx⟩ : ∃ x, (bumps out (QL.take j))[y]? = some x := ⟨_, List.getElem?_eq_getElem (by rw [bumps_len, hOL.out]; exact hyn)⟩
          have hxb := ((bumps_bd hBd.out (QL.take j))) x (List.mem_of_getElem? hx)
          rw [List.length_take] at hxb
          have hx1 : 0 ≤ x ∧ x ≤ 1000000 := by omega
          have c2 := hRow.out.at hx
          have c3 := hRow.out.frozen y
          obtain ⟨c4, c5⟩ := hBO.out.one
          have wx : IntKind.i64.wrap (x + 1) = x + 1 := IntWalk.i64_in _ (by omega)
          have hjI : (j : Int) < (QL.length : Int) := by omega
          have hj0 : (0 : Int) ≤ (j : Int) := Int.natCast_nonneg _
          have hyI : (y : Int) < (n : Int) := by omega
          have hy0 : (0 : Int) ≤ (y : Int) := Int.natCast_nonneg _
          have NXT : Hid (bumps out (QL.take (j + 1)) = (bumps out (QL.take j)).set y (x + 1)) := by
            show _ = _
            rw [List.take_add_one, hsy]
            show bumps out (_ ++ [(y : Int)]) = _
            rw [bumps_snoc]
            unfold bump
            rw [Int.toNat_natCast, hx]; rfl
          clear hsy hx hxb rix
          go_wp2_with fail
          have NR : Hid (RowI (wr.setCell ⟨G, y, none⟩ (.int .i64 (x + 1))) G n n (bumps out (QL.take (j + 1)))) := by
            show RowI _ _ _ _ _
            rw [NXT.out]
            exact hRow.out.set y (x + 1)
          go_roundw
          case rel => exact ⟨j + 1, by omega, by go_num, NR, hBO.out.setOther (by dsimp only; omega) _, hBE.out.setOther (by dsimp only; omega) _, kv.setCell (.inr (by simp)) _⟩
          case measure => simp [intOf]; omega
        · obtain rfl : j = QL.length := by omega
          have kwv : Keeps wo wr [G] := (k3.mono (S' := [G]) (fun _ h => by cases h)).trans kv (fun x hx _ => hx)
          have RKX := RdK.keepG (SH := SH) HRK.out (by rw [hSH1]; exact kwv)
          have R3X := RdK.keepG (SH := SH) R3H.out (by rw [hSH1]; exact kv)
          obtain ⟨a6, c6, hpost0, rpost⟩ := slice_postK (P := Try.prog) Try.underlying61 hi hz1 RKX (m := 2) (by omega)
          have hpost : ∀ w', (Instr.slice 61 (.slice (some ⟨ba, oa, none⟩) nr cr) (some (.int .i64 2)) none none).run Try.prog w' = .ok (.slice a6 (nr - 2) c6) w' := fun w' => hpost0 w'
          have hkv := kwv.size
          have rpost' : RdK wr (.slice a6 (nr - 2) c6) r := rpost
          have MA := Lib.hid (merged_any _ _ _ _ wr rpost' R3X (by simp; omega))
          clear RKX R3X rpost rpost' hpost0
          go_wp2_with fail
          refine MA.out.mono ?_
          rintro e w7 ⟨v7, rfl, o7, k7⟩
          obtain ⟨a7, c7, rfl⟩ := o7.form
          have hml : (mergedP r [(a.1 + b.1, QL)]).length = nr - 1 := by rw [mergedP_len]; simp; omega
          have R7 : Hid (RdK w7 (.slice a7 (mergedP r [(a.1 + b.1, QL)]).length c7) (mergedP r [(a.1 + b.1, QL)])) := o7.reads (by omega)
          have HML := Lib.hid hml
          have BD7 : Hid (BdL (256 * (N - (nr - 1))) (bumps out QL)) := (bumps_bd hBd.out QL).mono (by omega)
          have OL7 : Hid ((bumps out QL).length = n) := by show _ = _; rw [bumps_len]; exact hOL.out
          have ROW8 : Hid (RowI w7 G n n (bumps out QL)) := by
            have h := hRow.out
            rw [List.take_length] at h
            exact h.keeps k7 (by simp)
          have BO8 := Lib.hid (hBO.out.keeps k7 (by simp))
          have BE8 := Lib.hid (hBE.out.keeps k7 (by simp))
          have KW8 : Keeps W6 w7 [G] := (kw.trans kwv (fun x hx _ => hx)).then k7
          clear o7 k7 MA hRow hBO hBE hBd hOL
          rw [hml] at R7 ⊢
          go_wp2_with fail
          go_roundw
          case rel => exact ⟨nr - 1, c7, a7, mergedP r [(a.1 + b.1, QL)], bumps out QL, by omega, rfl, HML, R7, HST, BD7, OL7, HNX, ROW8, BO8, BE8, KW8⟩
          case measure => simp [lenOfV]; omega
    · have hlI : ¬ (1 : Int) < (nr : Int) := by omega
      obtain ⟨c4, c6⟩ := hBO.out.one
      obtain ⟨c5, c7⟩ := hBE.out.one
      have HEND : Hid (out = FIN) := by
        have h := hHF.out
        rw [hufP_end (by rw [hLL.out]; omega)] at h
        exact h
      go_wp2_with fail
      refine leaves_cons (f := 33) (args := #[.pointer (some ⟨w.heap.size + 1, 0, none⟩), .func (.func 44) #[] #[.pointer (some ⟨w.heap.size, 0, none⟩)]]) (by simp) (by simp [go_sem]) ?_
      refine (caught_idle _ _ _).mono ?_
      rintro e u' w'' ⟨rfl, rfl, rfl⟩
      refine ⟨.tuple #[.slice (some ⟨G, 0, none⟩) n n, .int .i64 0], by simp only [results, Try.results26]; go_simp, ?_⟩
      have HR2 := hRow.out
      rw [HEND.out] at HR2
      refine ⟨_, rfl, ?_, ?_, ?_⟩
      · exact (((HR2.keeps (S := [w.heap.size]) ((Keeps.refl wr _).setCell (.inr (by simp)) _) (by simp; omega)).keeps (S := [w.heap.size + 1]) ((Keeps.refl _ _).setCell (.inr (by simp)) _) (by simp; omega))).reads
      · intro ad n' c' he
        cases he
        dsimp only
        omega
      · have kk := K6.trans (S' := [G]) kw (fun x hx hlt => by have := List.mem_singleton.1 hx; omega)
        exact Keeps.setCell' (.inl (by dsimp only; omega)) (Keeps.setCell' (.inl (by dsimp only; omega)) kk)

end Go.Proofs.Ythjbngnihcmedaa
