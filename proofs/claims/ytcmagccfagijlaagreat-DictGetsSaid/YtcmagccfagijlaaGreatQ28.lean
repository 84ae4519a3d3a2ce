/-
  Walks over the reference of flows: Decode. (Printed by mkWp.py.)
-/
import Derived.Test.YtcmagccfagijlaaGreatQ22
import Derived.Test.YtcmagccfagijlaaGreatQ25
import Derived.Test.YtcmagccfagijlaaGreatQ27
namespace Go.Proofs.YtcmagccfagijlaaGreat
set_option linter.unusedVariables false
set_option linter.unusedSimpArgs false
set_option linter.unusedSectionVars false
open Go.RowKit

section
variable {g : Int} {nv bv : Value} {norm B : List Int} {n : Nat} {w : World}
theorem rfdec_bad (hv : RdI .i64 w nv norm) (hn : norm.length ≤ 1000000) (hok : okN g norm 256 9 = false) :
    Calls Tryz.prog 137 #[.agg #[.int .i64 g, nv], bv, .int .i64 (n : Int)] w (FlowEnd w (.error 13)) := by
  obtain ⟨A0, m, cp0, rfl, hnl, -⟩ := hv.form
  have k0 := (Keeps.refl w []).alloc (.cells #[.int .i64 g, .slice A0 m cp0] 27)
  have b0 := Blk.new w #[.int .i64 g, .slice A0 m cp0] 27
  have HC := Lib.hid (rcof_bad g _ norm _ (hv.keeps k0) hn hok)
  clear hv hnl hok hn
  go_enter Tryz.func137, Tryz.ntmps137
  go_wp2_with (go_at_call 168; go_loud (refine HC.out.mono ?_; rintro e w1 ⟨rfl, k1⟩))
  go_ret2
  exact ⟨k0.then k1, by decide, rfl⟩

theorem rfdec_mark (G : Nat) (hv : RdI .i64 w nv norm) (hok : TblOk G norm) (hok' : okN (G : Int) norm 256 9 = true) (hB : RdI .u8 w bv B) (hl : B.length ≤ 100000) (hby : ∀ x ∈ B, 0 ≤ x ∧ x ≤ 255) (hz : B.getD (B.length - 1) 0 = 0) (hn : n ≤ 131072) :
    Calls Tryz.prog 137 #[.agg #[.int .i64 (G : Int), nv], bv, .int .i64 (n : Int)] w (FlowEnd w (.error 14)) := by
  obtain ⟨A0, m, cp0, rfl, hnl, -⟩ := hv.form
  have k0 := (Keeps.refl w []).alloc (.cells #[.int .i64 (G : Int), .slice A0 m cp0] 27)
  have b0 := Blk.new w #[.int .i64 (G : Int), .slice A0 m cp0] 27
  have HC := Lib.hid (rcof_ok G _ norm _ (hv.keeps k0) hok' hok)
  have HN := Lib.hid (fun W (k : Keeps w W []) => rbwd_no B W bv (hB.keeps k) hl hby hz)
  obtain ⟨S, hS⟩ : ∃ S, 2 ^ G = S := ⟨_, rfl⟩
  rw [hS] at HC
  have hn1 : decide ((131072 : Int) < (n : Int)) = false := decide_eq_false (by omega)
  have hn2 : decide (131072 < n) = false := decide_eq_false (by omega)
  clear hv hnl hok hok' hB hS hl hby hz
  go_enter Tryz.func137, Tryz.ntmps137
  go_wp2_with (first
    | (go_at_call 168; go_loud (refine HC.out.mono ?_; rintro e w1 ⟨a, c, rfl, -, k1⟩; have kk1 := k0.then k1))
    | (go_at_call 169; go_loud (refine (HN.out _ kk1).mono ?_; rintro e w2 ⟨rfl, k2⟩)))
  go_ret2
  exact ⟨kk1.then k2, by decide, rfl⟩
end

/-- The bits that are left behind a read from the back. -/
theorem tb_ok2 {R : List Bool} {n : Nat} (h : n ≤ R.length) : ∃ v R1, tb R n = .ok (v, R1) ∧ v = valL (R.drop (R.length - n)) ∧ R1 = R.take (R.length - n) ∧ v < 2 ^ n ∧ R1.length + n = R.length := by
  have h1 := tb_ok h
  obtain ⟨h2, h3⟩ := tb_lt h1
  exact ⟨_, _, h1, rfl, rfl, h2, h3⟩

set_option maxRecDepth 100000 in
set_option maxHeartbeats 8000000 in
theorem rfdec_one (G : Nat) (nv bv : Value) (norm B : List Int) (n : Nat) (w : World) (hv : RdI .i64 w nv norm) (hok : TblOk G norm) (hok' : okN (G : Int) norm 256 9 = true) (hB : RdI .u8 w bv B) (hl : B.length ≤ 100000) (hby : ∀ x ∈ B, 0 ≤ x ∧ x ≤ 255)
    (hz : B.getD (B.length - 1) 0 ≠ 0) (hn : n ≤ 131072) (h1 : n = 1) :
    Calls Tryz.prog 137 #[.agg #[.int .i64 (G : Int), nv], bv, .int .i64 (n : Int)] w (FlowEnd w (flowP (celP G norm) G n (bwdL B (topB B)))) := by
  obtain ⟨i0, hi, hz0, hz1, hz2⟩ := info_parts Tryz.infoInt
  obtain ⟨F, hF⟩ : ∃ F, flowP (celP G norm) G n (bwdL B (topB B)) = F := ⟨_, rfl⟩
  rw [hF]
  obtain ⟨A0, m, cp0, rfl, hnl, -⟩ := hv.form
  have k0 := (Keeps.refl w []).alloc (.cells #[.int .i64 (G : Int), .slice A0 m cp0] 27)
  have b0 := Blk.new w #[.int .i64 (G : Int), .slice A0 m cp0] 27
  have HC := Lib.hid (rcof_ok G _ norm _ (hv.keeps k0) hok' hok)
  have HN := Lib.hid (fun W (k : Keeps w W []) => rbwd_yes B W bv (hB.keeps k) hl hby hz)
  have hg9 := hok.g9
  have HIN := Lib.hid (fun p v h1 h2 => celP_in (p := p) (v := v) hok h1 h2)
  obtain ⟨hS1, hS2⟩ := hok.size
  obtain ⟨S, hS⟩ : ∃ S, 2 ^ G = S := ⟨_, rfl⟩
  rw [hS] at HC HIN hS1 hS2
  have HSE := Lib.hid hS
  have hn1 : decide ((131072 : Int) < (n : Int)) = false := decide_eq_false (by omega)
  have hn2 : decide (131072 < n) = false := decide_eq_false (by omega)
  have hlw := b0.lt
  have hblen : (bwdL B (topB B)).length ≤ 8 * B.length := by unfold bwdL; rw [List.length_take, rowBits_len]; omega
  have HFR : Hid (∀ W Q GG, FR W Q GG ((rowBits B).take (topB B)) 0 → FR W Q GG (bwdL B (topB B)) 0) := fun W Q GG h => h
  obtain ⟨R0, hR0⟩ : ∃ R, bwdL B (topB B) = R := ⟨_, rfl⟩
  rw [hR0] at HFR hblen hF
  unfold flowP at hF
  have h0 : 0 < n := by omega
  rw [if_pos h0] at hF
  have hn0I : (0 : Int) < (n : Int) := by omega
  have hn1I : decide ((1 : Int) < (n : Int)) = false := decide_eq_false (by omega)
  have hn1N : decide (1 < n) = false := decide_eq_false (by omega)
  have h1' : ¬ 1 < n := by omega
  clear hv hnl hok hok' hB hS hby hz hl hR0
  by_cases hA : G ≤ R0.length
  · obtain ⟨v, R1, ht, hv, hR1, hv2, hl1⟩ := tb_ok2 hA
    rw [ht] at hF
    simp only at hF
    rw [HSE.out] at hv2
    have HL := Lib.hid (fun W Q GG (h : FR W Q GG R0 0) => rlast_ok Q GG 0 G R0 W h hA (by omega))
    rw [← hv, ← hR1] at HL
    obtain ⟨V, hV⟩ : ∃ V : Int, ((v : Nat) : Int) = V := ⟨_, rfl⟩
    rw [hV] at HL
    have HV := Lib.hid hV
    have hwv : wrap64 V = V := IntWalk.wrap64_in _ ⟨by omega, by omega⟩
    clear ht hv hR1 hV hA
    rw [if_neg h1'] at hF
    simp only at hF
    have HF := Lib.hid hF
    clear hF
    go_enter Tryz.func137, Tryz.ntmps137
    go_wp2_with (first
      | (go_at_call 168; go_loud (refine HC.out.mono ?_; rintro e w1 ⟨a, c, rfl, own1, k1⟩; have hQw : w.heap.size < w1.heap.size := (b0.keeps k1 (by simp)).lt; have kk1 := k0.then k1; have HK1 := Lib.hid k1; have OW1 := Lib.hid own1; clear own1 k1))
      | (go_at_call 169; go_loud (refine (HN.out _ kk1).mono ?_; rintro e w2 ⟨Q, GG, rfl, hQ, hGG, fr0, k2⟩; have fr := HFR.out _ _ _ fr0; have t2 := (b0.keeps HK1.out (by simp)).keeps k2 (by simp); have T2 := Lib.hid t2; have c0 := t2.cell 0; simp at c0; have HCALL := Lib.hid (HL.out _ _ _ fr); have hQl := fr.lt; have HGl := Lib.hid fr.ltG; have K2 := Lib.hid k2; clear fr fr0 k2 t2))
      | (go_at_call 170; go_loud (refine HCALL.out.mono ?_; rintro e w3 ⟨rfl, fr3, k3⟩; have FR3 := Lib.hid fr3; have K3 := Lib.hid k3; clear fr3 k3; clear HCALL)))
    try rw [hwv]
    clear hwv
    have hs2 := K2.out.size
    have hlS : (cellsL G norm S).length = S := cellsL_len G norm S
    have rc3 : RdW rowC 3 w3 (.slice a S c) (cellsL G norm S) := ((ownW_reads rowC_len (by rw [hlS]; exact OW1.out)).keep K2.out).keeps K3.out (fun ad nn cp he _ hm => by cases he; have := List.mem_singleton.1 hm; have := (OW1.out.lt _ rfl).2; omega)
    have kk3 : Keeps w w3 [] := (kk1.then K2.out).trans K3.out (fun j hj hl => by have := List.mem_singleton.1 hj; omega)
    have HCB : Hid (∀ ad, a = some ad → ad.block < w1.heap.size) := fun ad he => by subst he; exact (OW1.out.lt ad.block rfl).2
    have hs3 := K3.out.size
    clear hlS
    obtain ⟨H1, hH1⟩ : ∃ H, w1.heap.size = H := ⟨_, rfl⟩
    obtain ⟨H2, hH2⟩ : ∃ H, w2.heap.size = H := ⟨_, rfl⟩
    rw [hH1] at HCB hQ hGG hs2 hQw
    rw [hH2] at HGl hQl hs2 hs3
    have HG1 : Hid (0 < R0.length → GG < H2) := HGl
    have HI0 := Lib.hid (show _ ∧ _ ∧ _ ∧ _ ∧ _ from ⟨rc3, kk3, FR3.out, hs3, HV.out⟩)
    have hS0 : 0 < S := by omega
    clear HN HC HL HGl b0 k0 kk1 rc3 kk3 FR3 HFR c0 hs3 hH1 hH2 OW1 K2 K3 HK1 T2
    go_loopw [14, 15, 16, 17] (fun s14 s15 s16 s17 wr => ∃ (i now other c' r : Nat) (a' : Option Addr) (out : List Int) (R : List Bool), s17 = .int .i64 i ∧ i ≤ n ∧ s16 = .slice a' i c' ∧ s14 = .int .i64 now ∧ s15 = .int .i64 other ∧ FR wr Q GG R r ∧ RdW rowC 3 wr (.slice a S c) (cellsL G norm S) ∧ Keeps w wr [] ∧
        wr.ownsRow H2 3 1 (.slice a' i c') i (out.map (.int .i64)) ∧ now < S ∧ other < S ∧ H2 ≤ wr.heap.size ∧ R.length ≤ R0.length ∧ Hid (flowG (celP G norm) (n - i) R now other out = F)) (fun _ _ _ s17 _ => n - (intOf s17).toNat)
    case atStart =>
      obtain ⟨x1, x2, x3, x4, x5⟩ := HI0.out
      exact ⟨0, v, 0, 0, _, none, [], _, rfl, Nat.zero_le _, rfl, by rw [x5], rfl, x3, x1, x2, World.ownsRow_nil _ _ _ _, hv2, hS0, x4, by omega, HF⟩
    case round =>
      clear HI0 HF
      obtain ⟨i, now, other, c', r, a', out, R, rfl, hin, rfl, rfl, rfl, fr, rc, kk, own, hnS, hoS, hszr, hRl, hfl⟩ := hrel
      by_cases hlt : i < n
      · obtain ⟨k, hk⟩ : ∃ k, n - i = k + 1 := ⟨n - i - 1, by omega⟩
        have hk1 : n - (i + 1) = k := by omega
        have hf1 := hfl.out
        rw [hk] at hf1
        unfold flowG at hf1
        have hcg := cellsL_get (g := G) (norm := norm) hnS
        have HINC := Lib.hid (fun v h => HIN.out now v hnS h)
        obtain ⟨bl, ol, rfl, hbl2, cc0, cc1, cc2⟩ := cel_cells rc hcg
        have hnk := HCB.out _ rfl
        simp only at hnk
        have hcap := rc.cap
        generalize celP G norm now = CE at *
        obtain ⟨sy, bi, ba⟩ := CE
        simp only at cc0 cc1 cc2 hf1 HINC
        have hnSI : (now : Int) < (S : Int) := by omega
        have hiI : (i : Int) < (n : Int) := by omega
        have OW := Lib.hid own
        have HREL := Lib.hid (show _ ∧ _ ∧ _ from ⟨fr, rc, kk⟩)
        have HFL1 := Lib.hid hf1
        have YG := Lib.hid (young own)
        have C1 := Lib.hid cc1
        have C2 := Lib.hid cc2
        clear hf1 hfl fr rc kk own hcg cc1 cc2
        have HKY : Hid (∀ x, x < H2 → x ∉ (match Value.ownBlock (.slice a' i c') with | some g => [g] | none => [])) := fun x hx hm => by have := YG.out x hm; omega
        by_cases h2 : 2 ≤ k
        · exfalso; omega
        · have hi2 : decide ((i : Int) + 2 < (n : Int)) = false := decide_eq_false (by omega)
          have hi2n : decide (i + 2 < n) = false := decide_eq_false (by omega)
          have hf := HFL1.out
          rw [if_neg h2] at hf
          have HF2 := Lib.hid hf
          clear hf
          go_wp2_with (at_builtin; go_loud (refine wpList_app1I (w := wr) rfl _ _ 25 rfl H2 i0 Tryz.underlying25 hi hz0 hz1 hz2 (.slice a' i c') i out (sy : Int) _ rfl rfl (by simp) OW.out (by omega) (by omega) ?_; intro a6 c6 w6 own6 k6; have OW6 := Lib.hid own6; have K6 := Lib.hid k6; have hs6 := k6.size; clear own6 k6 cc0))
          obtain ⟨x1, x2, x3⟩ := HREL.out
          have x1' := x1.keeps K6.out (HKY.out _ (by omega)) (fun h0 => HKY.out _ (HG1.out (by omega)))
          have x2' := x2.keeps K6.out (fun ad nn cp he _ hm => by cases he; exact HKY.out _ (by simp only; omega) hm)
          have x3' : Keeps w w6 [] := x3.trans K6.out (fun j hj hl => by have := YG.out j hj; omega)
          go_roundw
          case rel => exact ⟨i + 1, other, now, c6, r, a6, out ++ [(sy : Int)], R, by go_num, by omega, rfl, rfl, rfl, x1', x2', x3', OW6.out, hoS, hnS, by omega, hRl, by rw [hk1]; exact HF2.out⟩
          case measure => simp [intOf]; omega
      · obtain rfl : i = n := by omega
        have hii : decide ((i : Int) < (i : Int)) = false := by simp
        have hf := hfl.out
        rw [Nat.sub_self] at hf
        unfold flowG at hf
        have HF2 := Lib.hid hf
        obtain ⟨vs, bq, hr, -⟩ := fr.at_
        obtain ⟨A1, nR, cR, rfl, hnR, -⟩ := hr.form
        have c0 := bq.cell 0
        simp at c0
        have OW := Lib.hid own
        have KK := Lib.hid kk
        by_cases h0 : nR = 0
        · subst h0
          have HNR := Lib.hid hnR
          clear hf hfl fr rc kk own hr bq hnR
          go_wp2_with fail
          go_ret2
          refine ⟨KK.out, ?_⟩
          rw [← HF2.out, if_pos HNR.out.symm]
          have hol : out.length = i := by have := OW.out.1; simpa using this
          refine ⟨_, rfl, ?_, ?_⟩
          · have h := OW.out
            rw [← hol] at h ⊢
            exact own_reads h
          · intro ad n' c9 he
            cases he
            have := (OW.out.lt ad.block rfl).1
            omega
        · have h0' : decide ((0 : Int) < (nR : Int)) = true := decide_eq_true (by omega)
          have h0n : decide (0 < nR) = true := decide_eq_true (by omega)
          have h00 : 0 < nR := by omega
          have HNR := Lib.hid hnR
          clear hf hfl fr rc kk own hr bq hnR
          go_wp2_with fail
          go_ret2
          refine ⟨KK.out, ?_⟩
          rw [← HF2.out, if_neg (by have := HNR.out; omega)]
          exact ⟨by decide, rfl⟩
  · rw [tb_no (by omega)] at hF
    simp only at hF
    have HF := Lib.hid hF
    have HL := Lib.hid (fun W Q GG (h : FR W Q GG R0 0) => rlast_no Q GG 0 G R0 W h (by omega) (by omega))
    clear hF hA
    go_enter Tryz.func137, Tryz.ntmps137
    go_wp2_with (first
      | (go_at_call 168; go_loud (refine HC.out.mono ?_; rintro e w1 ⟨a, c, rfl, own1, k1⟩; have hQw : w.heap.size < w1.heap.size := (b0.keeps k1 (by simp)).lt; have kk1 := k0.then k1; have HK1 := Lib.hid k1; clear own1 k1))
      | (go_at_call 169; go_loud (refine (HN.out _ kk1).mono ?_; rintro e w2 ⟨Q, GG, rfl, hQ, hGG, fr0, k2⟩; have fr := HFR.out _ _ _ fr0; have t2 := (b0.keeps HK1.out (by simp)).keeps k2 (by simp); have T2 := Lib.hid t2; have c0 := t2.cell 0; simp at c0; have HCALL := Lib.hid (HL.out _ _ _ fr); have K2 := Lib.hid k2; clear fr fr0 k2 t2))
      | (go_at_call 170; go_loud (refine HCALL.out.mono ?_; rintro e w3 ⟨rfl, rfl⟩; clear HCALL)))
    go_ret2
    refine ⟨kk1.then K2.out, ?_⟩
    rw [← HF.out]
    exact ⟨by decide, rfl⟩

set_option maxRecDepth 100000 in
set_option maxHeartbeats 8000000 in
theorem rfdec_two (G : Nat) (nv bv : Value) (norm B : List Int) (n : Nat) (w : World) (hv : RdI .i64 w nv norm) (hok : TblOk G norm) (hok' : okN (G : Int) norm 256 9 = true) (hB : RdI .u8 w bv B) (hl : B.length ≤ 100000) (hby : ∀ x ∈ B, 0 ≤ x ∧ x ≤ 255)
    (hz : B.getD (B.length - 1) 0 ≠ 0) (hn : n ≤ 131072) (h1 : 1 < n) :
    Calls Tryz.prog 137 #[.agg #[.int .i64 (G : Int), nv], bv, .int .i64 (n : Int)] w (FlowEnd w (flowP (celP G norm) G n (bwdL B (topB B)))) := by
  obtain ⟨i0, hi, hz0, hz1, hz2⟩ := info_parts Tryz.infoInt
  obtain ⟨F, hF⟩ : ∃ F, flowP (celP G norm) G n (bwdL B (topB B)) = F := ⟨_, rfl⟩
  rw [hF]
  obtain ⟨A0, m, cp0, rfl, hnl, -⟩ := hv.form
  have k0 := (Keeps.refl w []).alloc (.cells #[.int .i64 (G : Int), .slice A0 m cp0] 27)
  have b0 := Blk.new w #[.int .i64 (G : Int), .slice A0 m cp0] 27
  have HC := Lib.hid (rcof_ok G _ norm _ (hv.keeps k0) hok' hok)
  have HN := Lib.hid (fun W (k : Keeps w W []) => rbwd_yes B W bv (hB.keeps k) hl hby hz)
  have hg9 := hok.g9
  have HIN := Lib.hid (fun p v h1 h2 => celP_in (p := p) (v := v) hok h1 h2)
  obtain ⟨hS1, hS2⟩ := hok.size
  obtain ⟨S, hS⟩ : ∃ S, 2 ^ G = S := ⟨_, rfl⟩
  rw [hS] at HC HIN hS1 hS2
  have HSE := Lib.hid hS
  have hn1 : decide ((131072 : Int) < (n : Int)) = false := decide_eq_false (by omega)
  have hn2 : decide (131072 < n) = false := decide_eq_false (by omega)
  have hlw := b0.lt
  have hblen : (bwdL B (topB B)).length ≤ 8 * B.length := by unfold bwdL; rw [List.length_take, rowBits_len]; omega
  have HFR : Hid (∀ W Q GG, FR W Q GG ((rowBits B).take (topB B)) 0 → FR W Q GG (bwdL B (topB B)) 0) := fun W Q GG h => h
  obtain ⟨R0, hR0⟩ : ∃ R, bwdL B (topB B) = R := ⟨_, rfl⟩
  rw [hR0] at HFR hblen hF
  unfold flowP at hF
  have h0 : 0 < n := by omega
  rw [if_pos h0] at hF
  have hn0I : (0 : Int) < (n : Int) := by omega
  have hn1I : (1 : Int) < (n : Int) := by omega
  have h1n : 1 < n := h1
  clear hv hnl hok hok' hB hS hby hz hl hR0
  by_cases hA : G ≤ R0.length
  · obtain ⟨v, R1, ht, hv, hR1, hv2, hl1⟩ := tb_ok2 hA
    rw [ht] at hF
    simp only at hF
    rw [HSE.out] at hv2
    have HL := Lib.hid (fun W Q GG (h : FR W Q GG R0 0) => rlast_ok Q GG 0 G R0 W h hA (by omega))
    rw [← hv, ← hR1] at HL
    obtain ⟨V, hV⟩ : ∃ V : Int, ((v : Nat) : Int) = V := ⟨_, rfl⟩
    rw [hV] at HL
    have HV := Lib.hid hV
    have hwv : wrap64 V = V := IntWalk.wrap64_in _ ⟨by omega, by omega⟩
    clear ht hv hR1 hV hA
    rw [if_pos h1] at hF
    by_cases hA2 : G ≤ R1.length
    · obtain ⟨v2, R2, ht, hv, hR1, hv3, hl2⟩ := tb_ok2 hA2
      rw [ht] at hF
      simp only at hF
      rw [HSE.out] at hv3
      have HF := Lib.hid hF
      have HL2 := Lib.hid (fun W Q GG (h : FR W Q GG R1 (0 + G)) => rlast_ok Q GG (0 + G) G R1 W h hA2 (by omega))
      rw [← hv, ← hR1] at HL2
      obtain ⟨V2, hV2⟩ : ∃ V : Int, ((v2 : Nat) : Int) = V := ⟨_, rfl⟩
      rw [hV2] at HL2
      have HV2 := Lib.hid hV2
      have hwv2 : wrap64 V2 = V2 := IntWalk.wrap64_in _ ⟨by omega, by omega⟩
      clear ht hv hR1 hV2 hA2 hF
      go_enter Tryz.func137, Tryz.ntmps137
      go_wp2_with (first
        | (go_at_call 168; go_loud (refine HC.out.mono ?_; rintro e w1 ⟨a, c, rfl, own1, k1⟩; have hQw : w.heap.size < w1.heap.size := (b0.keeps k1 (by simp)).lt; have kk1 := k0.then k1; have HK1 := Lib.hid k1; have OW1 := Lib.hid own1; clear own1 k1))
        | (go_at_call 169; go_loud (refine (HN.out _ kk1).mono ?_; rintro e w2 ⟨Q, GG, rfl, hQ, hGG, fr0, k2⟩; have fr := HFR.out _ _ _ fr0; have t2 := (b0.keeps HK1.out (by simp)).keeps k2 (by simp); have T2 := Lib.hid t2; have c0 := t2.cell 0; simp at c0; have HCALL := Lib.hid (HL.out _ _ _ fr); have hQl := fr.lt; have HGl := Lib.hid fr.ltG; have K2 := Lib.hid k2; clear fr fr0 k2 t2))
        | (go_at_call 170; go_loud (refine HCALL.out.mono ?_; rintro e w3a ⟨rfl, fr3, k3⟩; have HCALL2 := Lib.hid (HL2.out _ _ _ fr3); have K3a := Lib.hid k3; have c0' := (T2.out.keeps k3 (by simp; omega)).cell 0; simp at c0'; clear fr3 k3; clear HCALL))
        | (go_at_call 170; go_loud (refine HCALL2.out.mono ?_; rintro e w3 ⟨rfl, fr3, k3⟩; have FR3 := Lib.hid fr3; have K3 := Lib.hid (K3a.out.trans k3 (fun j hj _ => hj)); clear fr3 k3 HCALL2)))
      try rw [hwv]
      try rw [hwv2]
      clear hwv hwv2
      have hs2 := K2.out.size
      have hlS : (cellsL G norm S).length = S := cellsL_len G norm S
      have rc3 : RdW rowC 3 w3 (.slice a S c) (cellsL G norm S) := ((ownW_reads rowC_len (by rw [hlS]; exact OW1.out)).keep K2.out).keeps K3.out (fun ad nn cp he _ hm => by cases he; have := List.mem_singleton.1 hm; have := (OW1.out.lt _ rfl).2; omega)
      have kk3 : Keeps w w3 [] := (kk1.then K2.out).trans K3.out (fun j hj hl => by have := List.mem_singleton.1 hj; omega)
      have HCB : Hid (∀ ad, a = some ad → ad.block < w1.heap.size) := fun ad he => by subst he; exact (OW1.out.lt ad.block rfl).2
      have hs3 := K3.out.size
      clear hlS
      obtain ⟨H1, hH1⟩ : ∃ H, w1.heap.size = H := ⟨_, rfl⟩
      obtain ⟨H2, hH2⟩ : ∃ H, w2.heap.size = H := ⟨_, rfl⟩
      rw [hH1] at HCB hQ hGG hs2 hQw
      rw [hH2] at HGl hQl hs2 hs3
      have HG1 : Hid (0 < R0.length → GG < H2) := HGl
      have HI0 := Lib.hid (show _ ∧ _ ∧ _ ∧ _ ∧ _ from ⟨rc3, kk3, FR3.out, hs3, (show _ ∧ _ from ⟨HV.out, HV2.out⟩)⟩)
      clear HN HC HL HGl b0 k0 kk1 rc3 kk3 FR3 HFR c0 hs3 hH1 hH2 OW1 K2 K3 HK1 T2 K3a HL2 c0'
      go_loopw [14, 15, 16, 17] (fun s14 s15 s16 s17 wr => ∃ (i now other c' r : Nat) (a' : Option Addr) (out : List Int) (R : List Bool), s17 = .int .i64 i ∧ i ≤ n ∧ s16 = .slice a' i c' ∧ s14 = .int .i64 now ∧ s15 = .int .i64 other ∧ FR wr Q GG R r ∧ RdW rowC 3 wr (.slice a S c) (cellsL G norm S) ∧ Keeps w wr [] ∧
          wr.ownsRow H2 3 1 (.slice a' i c') i (out.map (.int .i64)) ∧ now < S ∧ other < S ∧ H2 ≤ wr.heap.size ∧ R.length ≤ R0.length ∧ Hid (flowG (celP G norm) (n - i) R now other out = F)) (fun _ _ _ s17 _ => n - (intOf s17).toNat)
      case atStart =>
        obtain ⟨x1, x2, x3, x4, x5⟩ := HI0.out
        exact ⟨0, v, v2, 0, _, none, [], _, rfl, Nat.zero_le _, rfl, by rw [x5.1], by rw [x5.2], x3, x1, x2, World.ownsRow_nil _ _ _ _, hv2, hv3, x4, by omega, HF⟩
      case round =>
        clear HI0 HF
        obtain ⟨i, now, other, c', r, a', out, R, rfl, hin, rfl, rfl, rfl, fr, rc, kk, own, hnS, hoS, hszr, hRl, hfl⟩ := hrel
        by_cases hlt : i < n
        · obtain ⟨k, hk⟩ : ∃ k, n - i = k + 1 := ⟨n - i - 1, by omega⟩
          have hk1 : n - (i + 1) = k := by omega
          have hf1 := hfl.out
          rw [hk] at hf1
          unfold flowG at hf1
          have hcg := cellsL_get (g := G) (norm := norm) hnS
          have HINC := Lib.hid (fun v h => HIN.out now v hnS h)
          obtain ⟨bl, ol, rfl, hbl2, cc0, cc1, cc2⟩ := cel_cells rc hcg
          have hnk := HCB.out _ rfl
          simp only at hnk
          have hcap := rc.cap
          generalize celP G norm now = CE at *
          obtain ⟨sy, bi, ba⟩ := CE
          simp only at cc0 cc1 cc2 hf1 HINC
          have hnSI : (now : Int) < (S : Int) := by omega
          have hiI : (i : Int) < (n : Int) := by omega
          have OW := Lib.hid own
          have HREL := Lib.hid (show _ ∧ _ ∧ _ from ⟨fr, rc, kk⟩)
          have HFL1 := Lib.hid hf1
          have YG := Lib.hid (young own)
          have C1 := Lib.hid cc1
          have C2 := Lib.hid cc2
          clear hf1 hfl fr rc kk own hcg cc1 cc2
          have HKY : Hid (∀ x, x < H2 → x ∉ (match Value.ownBlock (.slice a' i c') with | some g => [g] | none => [])) := fun x hx hm => by have := YG.out x hm; omega
          by_cases h2 : 2 ≤ k
          · have hi2 : (i : Int) + 2 < (n : Int) := by omega
            go_wp2_with (at_builtin; go_loud (refine wpList_app1I (w := wr) rfl _ _ 25 rfl H2 i0 Tryz.underlying25 hi hz0 hz1 hz2 (.slice a' i c') i out (sy : Int) _ rfl rfl (by simp) OW.out (by omega) (by omega) ?_; intro a6 c6 w6 own6 k6; have OW6 := Lib.hid own6; have K6 := Lib.hid k6; have hs6 := k6.size; have cc1 := (k6.cell (p := ⟨bl, ol + now * 3 + 1, none⟩) hbl2 (HKY.out bl (by omega))).trans C1.out; clear own6 k6 cc0))
            obtain ⟨x1, x2, x3⟩ := HREL.out
            have x1' := x1.keeps K6.out (HKY.out _ (by omega)) (fun h0 => HKY.out _ (HG1.out (by omega)))
            have x2' := x2.keeps K6.out (fun ad nn cp he _ hm => by cases he; exact HKY.out _ (by simp only; omega) hm)
            have x3' : Keeps w w6 [] := x3.trans K6.out (fun j hj hl => by have := YG.out j hj; omega)
            have hbi : bi ≤ 9 := by have := (HINC.out 0 (Nat.two_pow_pos _)).2; omega
            have cc2 := (K6.out.cell (p := ⟨bl, ol + now * 3 + 2, none⟩) hbl2 (HKY.out bl (by omega))).trans C2.out
            have C26 := Lib.hid cc2
            have hbl6 : bl < w6.heap.size := by omega
            clear x1 x2 x3 HREL cc2
            by_cases hA : bi ≤ R.length
            · obtain ⟨v, R1, ht, hv, hR1, hv2, hl1⟩ := tb_ok2 hA
              have HT := Lib.hid (rlast_ok Q GG r bi R w6 x1' hA (by omega))
              rw [← hv, ← hR1] at HT
              have hf := HFL1.out
              rw [if_pos h2, ht] at hf
              simp only at hf
              have hin2 := (HINC.out v hv2).1
              have HF2 := Lib.hid hf
              have X1 := Lib.hid (show _ ∧ _ from ⟨x2', x3'⟩)
              obtain ⟨V, hV⟩ : ∃ V : Int, ((v : Nat) : Int) = V := ⟨_, rfl⟩
              rw [hV] at HT
              obtain ⟨SV, hSV⟩ : ∃ SV : Int, (ba : Int) + V = SV := ⟨_, rfl⟩
              have HSV := Lib.hid (show SV = ((ba + v : Nat) : Int) by omega)
              have hv9 : (V : Int) ≤ 512 := by
                have : v < 512 := by omega
                omega
              have hV0 : 0 ≤ V := by omega
              have hwV : wrap64 V = V := IntWalk.wrap64_in _ ⟨by omega, by omega⟩
              have hwS : wrap64 SV = SV := IntWalk.wrap64_in _ ⟨by omega, by omega⟩
              clear hf ht hv hR1 hV x1' x2' x3' hv2
              go_wp2_with (go_at_call 170; go_loud (refine HT.out.mono ?_; rintro e w7 ⟨rfl, fr7, k7⟩; have FR7 := Lib.hid fr7; have K7 := Lib.hid k7; have hs7 := k7.size; have cc2 := (k7.cell (p := ⟨bl, ol + now * 3 + 2, none⟩) hbl6 (by simp; omega)).trans C26.out; clear fr7 k7 cc1))
              go_roundw
              case rel =>
                obtain ⟨y1, y2⟩ := X1.out
                refine ⟨i + 1, other, ba + v, c6, r + bi, a6, out ++ [(sy : Int)], R1, by go_num, by omega, rfl, rfl, ?_, FR7.out, ?_, ?_, ?_, hoS, hin2, by omega, by omega, ?_⟩
                · rw [← HSV.out]
                · exact y1.keeps K7.out (fun ad nn cp he _ hm => by cases he; have := List.mem_singleton.1 hm; simp only at this; omega)
                · exact y2.trans K7.out (fun j hj hl => by have := List.mem_singleton.1 hj; omega)
                · exact own_old OW6.out K7.out (fun x hx hm => by have := List.mem_singleton.1 hm; have := (OW6.out.lt x hx).1; omega)
                · rw [hk1]; exact HF2.out
              case measure => simp [intOf]; omega
            · have HT := Lib.hid (rlast_no Q GG r bi R w6 x1' (by omega) (by omega))
              have hf := HFL1.out
              rw [if_pos h2, tb_no (by omega)] at hf
              simp only at hf
              have HF2 := Lib.hid hf
              have X3 := Lib.hid x3'
              clear hf x1' x2' x3'
              go_wp2_with (go_at_call 170; go_loud (refine HT.out.mono ?_; rintro e w7 ⟨rfl, rfl⟩))
              go_ret2
              refine ⟨X3.out, ?_⟩
              rw [← HF2.out]
              exact ⟨by decide, rfl⟩
          · have hi2 : decide ((i : Int) + 2 < (n : Int)) = false := decide_eq_false (by omega)
            have hi2n : decide (i + 2 < n) = false := decide_eq_false (by omega)
            have hf := HFL1.out
            rw [if_neg h2] at hf
            have HF2 := Lib.hid hf
            clear hf
            go_wp2_with (at_builtin; go_loud (refine wpList_app1I (w := wr) rfl _ _ 25 rfl H2 i0 Tryz.underlying25 hi hz0 hz1 hz2 (.slice a' i c') i out (sy : Int) _ rfl rfl (by simp) OW.out (by omega) (by omega) ?_; intro a6 c6 w6 own6 k6; have OW6 := Lib.hid own6; have K6 := Lib.hid k6; have hs6 := k6.size; clear own6 k6 cc0))
            obtain ⟨x1, x2, x3⟩ := HREL.out
            have x1' := x1.keeps K6.out (HKY.out _ (by omega)) (fun h0 => HKY.out _ (HG1.out (by omega)))
            have x2' := x2.keeps K6.out (fun ad nn cp he _ hm => by cases he; exact HKY.out _ (by simp only; omega) hm)
            have x3' : Keeps w w6 [] := x3.trans K6.out (fun j hj hl => by have := YG.out j hj; omega)
            go_roundw
            case rel => exact ⟨i + 1, other, now, c6, r, a6, out ++ [(sy : Int)], R, by go_num, by omega, rfl, rfl, rfl, x1', x2', x3', OW6.out, hoS, hnS, by omega, hRl, by rw [hk1]; exact HF2.out⟩
            case measure => simp [intOf]; omega
        · obtain rfl : i = n := by omega
          have hii : decide ((i : Int) < (i : Int)) = false := by simp
          have hf := hfl.out
          rw [Nat.sub_self] at hf
          unfold flowG at hf
          have HF2 := Lib.hid hf
          obtain ⟨vs, bq, hr, -⟩ := fr.at_
          obtain ⟨A1, nR, cR, rfl, hnR, -⟩ := hr.form
          have c0 := bq.cell 0
          simp at c0
          have OW := Lib.hid own
          have KK := Lib.hid kk
          by_cases h0 : nR = 0
          · subst h0
            have HNR := Lib.hid hnR
            clear hf hfl fr rc kk own hr bq hnR
            go_wp2_with fail
            go_ret2
            refine ⟨KK.out, ?_⟩
            rw [← HF2.out, if_pos HNR.out.symm]
            have hol : out.length = i := by have := OW.out.1; simpa using this
            refine ⟨_, rfl, ?_, ?_⟩
            · have h := OW.out
              rw [← hol] at h ⊢
              exact own_reads h
            · intro ad n' c9 he
              cases he
              have := (OW.out.lt ad.block rfl).1
              omega
          · have h0' : decide ((0 : Int) < (nR : Int)) = true := decide_eq_true (by omega)
            have h0n : decide (0 < nR) = true := decide_eq_true (by omega)
            have h00 : 0 < nR := by omega
            have HNR := Lib.hid hnR
            clear hf hfl fr rc kk own hr bq hnR
            go_wp2_with fail
            go_ret2
            refine ⟨KK.out, ?_⟩
            rw [← HF2.out, if_neg (by have := HNR.out; omega)]
            exact ⟨by decide, rfl⟩
    · rw [tb_no (by omega)] at hF
      simp only at hF
      have HF := Lib.hid hF
      have HL2 := Lib.hid (fun W Q GG (h : FR W Q GG R1 (0 + G)) => rlast_no Q GG (0 + G) G R1 W h (by omega) (by omega))
      clear hF hA2
      go_enter Tryz.func137, Tryz.ntmps137
      go_wp2_with (first
        | (go_at_call 168; go_loud (refine HC.out.mono ?_; rintro e w1 ⟨a, c, rfl, own1, k1⟩; have hQw : w.heap.size < w1.heap.size := (b0.keeps k1 (by simp)).lt; have kk1 := k0.then k1; have HK1 := Lib.hid k1; clear own1 k1))
        | (go_at_call 169; go_loud (refine (HN.out _ kk1).mono ?_; rintro e w2 ⟨Q, GG, rfl, hQ, hGG, fr0, k2⟩; have fr := HFR.out _ _ _ fr0; have t2 := (b0.keeps HK1.out (by simp)).keeps k2 (by simp); have T2 := Lib.hid t2; have c0 := t2.cell 0; simp at c0; have HCALL := Lib.hid (HL.out _ _ _ fr); have K2 := Lib.hid k2; clear fr fr0 k2 t2))
        | (go_at_call 170; go_loud (refine HCALL.out.mono ?_; rintro e w3a ⟨rfl, fr3, k3⟩; have HCALL2 := Lib.hid (HL2.out _ _ _ fr3); have K3a := Lib.hid k3; have c0' := (T2.out.keeps k3 (by simp; omega)).cell 0; simp at c0'; clear fr3 k3; clear HCALL))
        | (go_at_call 170; go_loud (refine HCALL2.out.mono ?_; rintro e w3 ⟨rfl, rfl⟩; clear HCALL2)))
      go_ret2
      refine ⟨(kk1.then K2.out).trans K3a.out (fun j hj hl => by have := List.mem_singleton.1 hj; omega), ?_⟩
      rw [← HF.out]
      exact ⟨by decide, rfl⟩
  · rw [tb_no (by omega)] at hF
    simp only at hF
    have HF := Lib.hid hF
    have HL := Lib.hid (fun W Q GG (h : FR W Q GG R0 0) => rlast_no Q GG 0 G R0 W h (by omega) (by omega))
    clear hF hA
    go_enter Tryz.func137, Tryz.ntmps137
    go_wp2_with (first
      | (go_at_call 168; go_loud (refine HC.out.mono ?_; rintro e w1 ⟨a, c, rfl, own1, k1⟩; have hQw : w.heap.size < w1.heap.size := (b0.keeps k1 (by simp)).lt; have kk1 := k0.then k1; have HK1 := Lib.hid k1; clear own1 k1))
      | (go_at_call 169; go_loud (refine (HN.out _ kk1).mono ?_; rintro e w2 ⟨Q, GG, rfl, hQ, hGG, fr0, k2⟩; have fr := HFR.out _ _ _ fr0; have t2 := (b0.keeps HK1.out (by simp)).keeps k2 (by simp); have T2 := Lib.hid t2; have c0 := t2.cell 0; simp at c0; have HCALL := Lib.hid (HL.out _ _ _ fr); have K2 := Lib.hid k2; clear fr fr0 k2 t2))
      | (go_at_call 170; go_loud (refine HCALL.out.mono ?_; rintro e w3 ⟨rfl, rfl⟩; clear HCALL)))
    go_ret2
    refine ⟨kk1.then K2.out, ?_⟩
    rw [← HF.out]
    exact ⟨by decide, rfl⟩

/-- The reference's Decode, in one word. -/
theorem rfdec_any (g : Int) (nv bv : Value) (norm B : List Int) (n : Nat) (w : World) (hv : RdI .i64 w nv norm) (hnl : norm.length ≤ 1000000) (hB : RdI .u8 w bv B) (hl : B.length ≤ 100000) (hby : ∀ x ∈ B, 0 ≤ x ∧ x ≤ 255) (hn : n ≤ 131072) (h1 : 1 ≤ n) :
    Calls Tryz.prog 137 #[.agg #[.int .i64 g, nv], bv, .int .i64 (n : Int)] w (FlowEnd w (flowD g norm B n)) := by
  unfold flowD
  cases hok : okN g norm 256 9 with
  | false =>
    rw [if_pos rfl]
    exact rfdec_bad hv hnl hok
  | true =>
    rw [if_neg (by simp)]
    obtain ⟨G, rfl, ht⟩ := tbl_ok hok
    by_cases hz : B.getD (B.length - 1) 0 = 0
    · rw [if_pos hz]
      exact rfdec_mark G hv ht hok hB hl hby hz hn
    · rw [if_neg hz, Int.toNat_natCast]
      by_cases h2 : n = 1
      · exact rfdec_one G nv bv norm B n w hv ht hok hB hl hby hz hn h2
      · exact rfdec_two G nv bv norm B n w hv ht hok hB hl hby hz hn (by omega)


end Go.Proofs.YtcmagccfagijlaaGreat
