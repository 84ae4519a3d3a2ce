/-
  The law on the iterator over frequent keys: its walk.
-/
import Derived.Test.YtogengangfohfaaGreatQ25
import Derived.Test.YtogengangfohfaaGreatQ7
import Derived.Test.YtogengangfohfaaGreatQ14
import Derived.Test.YtogengangfohfaaGreatQ20
import Derived.Test.YtogengangfohfaaGreatQ21
import Derived.Deep.DeepCutAuto
import Derived.Deep.CutRange
namespace Go.Proofs.YtogengangfohfaaGreat
set_option linter.unusedVariables false
set_option linter.unusedSimpArgs false
set_option linter.unusedSectionVars false
open Go.RowKit

attribute [local go_sem] Oper.semAt_some

theorem few_may {l : List (List Int)} (h : fewL l) : mayL l := ⟨by have := h.1; omega, fun b hb => by have := h.2 b hb; omega⟩

/-- How often the first turn goes. -/
def manyK (n : Nat) (many : Int) : Int := if (n : Int) < (if many < 1 then 1 else many) then (n : Int) else (if many < 1 then 1 else many)
theorem manyK_stop {n k : Nat} {many : Int} (hk : k < n) (h2 : k = 0 ∨ (k : Int) < many) (h3 : many ≤ (k : Int) + 1) : ((k + 1 : Nat) : Int) = manyK n many := by
  unfold manyK
  repeat' split
  all_goals omega
theorem manyK_done {n : Nat} {many : Int} (h2 : n = 0 ∨ (n : Int) < many) : (n : Int) = manyK n many := by
  unfold manyK
  repeat' split
  all_goals omega

set_option maxRecDepth 100000 in
set_option maxHeartbeats 8000000 in
theorem law_tkeys (v : Value) (l : List (List Int)) (many : Int) (w : World) (hv : RdL .u8 w v l) (hl : ∀ b ∈ l, ∀ x ∈ b, 0 ≤ x ∧ x ≤ 255) :
    Calls Tryz.prog 3 #[v, .int .i64 many] w (LawEnd w) := by
  have k0 : Keeps w ((w.alloc (.cells #[.int .i64 many] 3)).alloc (.cells #[.bool false] 4)) [] := ((Keeps.refl w []).alloc _).alloc _
  have b3 := (Blk.new w #[.int .i64 many] 3).alloc (.cells #[.bool false] 4)
  have b4 := Blk.new (w.alloc (.cells #[.int .i64 many] 3)) #[.bool false] 4
  simp only [World.size_alloc] at b4
  have HF : ∀ r : Bool, (fewL l ↔ r = true) → Hid (Calls Tryz.prog 10 #[v] ((w.alloc (.cells #[.int .i64 many] 3)).alloc (.cells #[.bool false] 4)) fun e w' => e = .returned (.bool r) ∧ ((w.alloc (.cells #[.int .i64 many] 3)).alloc (.cells #[.bool false] 4)) = w') := fun r h => few_any v l _ (hv.keeps k0) h
  by_cases hf : fewL l
  · have HF1 := HF true (by simp [hf])
    have HMY := Lib.hid (few_may hf)
    have HFW := Lib.hid hf
    have HRK := Lib.hid (rKeys_any v l _ (hv.keeps k0) hl (by have := hf.1; omega))
    have HKY := Lib.hid (fun w2 (k2 : Keeps w w2 []) => keysfn_any v l w2 (hv.keeps k2) hl (few_may hf))
    have HL := Lib.hid hl
    obtain ⟨A1, n1, cp1, rfl, hn1, -⟩ := hv.form
    clear HF hv hf hn1 hl
    refine calls_of_marks Tryz.func3 rfl ?_
    simp only [Tryz.ntmps3, List.size_toArray, List.length_cons, List.length_nil, Nat.reduceAdd, Nat.reduceSub, Array.replicate_succ, Array.replicate_zero, List.push_toArray, List.append_toArray, List.nil_append, List.cons_append]
    go_wp2_with (go_at_call 10; refine HF1.out.mono ?_; rintro e w5 ⟨rfl, rfl⟩)
    generalize ((w.alloc (.cells #[.int .i64 many] 3)).alloc (.cells #[.bool false] 4)) = W0 at *
    refine HRK.out.mono ?_
    rintro e w1 ⟨k1, ⟨-, vO, vC, rfl, oO, rC⟩ | ⟨hne, -⟩⟩
    rotate_left
    · exact (hne HMY.out).elim
    obtain ⟨aO, cO, rfl⟩ := own_form oO
    have rO := oO.reads
    obtain ⟨aC, nC, cC, rfl, hnC, -⟩ := rC.form
    obtain rfl : nC = (outK (cntL l) (allK l)).length := by rw [hnC]; simp [cntsI]
    replace k0 := k0.then k1
    replace b3 := b3.keeps k1 (by simp)
    replace b4 := b4.keeps k1 (by simp)
    clear k1 HRK HF1 hnC oO
    have HAK : Hid ((allK l).length ≤ 720) := by
      show _ ≤ _
      have h1 := allK_len HFW.out.2
      have h2 := HFW.out.1
      omega
    have hO1 : (outK (cntL l) (allK l)).length ≤ 720 := by
      have h1 : (outK (cntL l) (allK l)).length ≤ (allK l).length := Nat.le_trans (ded_len _) (List.length_filter_le _ _)
      have := HAK.out
      omega
    generalize hO : outK (cntL l) (allK l) = O at *
    have HO := Lib.hid hO
    clear hO
    go_wp2_with fail
    have b5 := (Blk.new w1 #[.slice aO O.length cO] 25).alloc (.cells #[.slice aC O.length cC] 26)
    have b6 := Blk.new (w1.alloc (.cells #[.slice aO O.length cO] 25)) #[.slice aC O.length cC] 26
    have kz : Keeps w1 ((w1.alloc (.cells #[.slice aO O.length cO] 25)).alloc (.cells #[.slice aC O.length cC] 26)) [] := ((Keeps.refl w1 []).alloc _).alloc _
    have hW2 : ((w1.alloc (.cells #[.slice aO O.length cO] 25)).alloc (.cells #[.slice aC O.length cC] 26)).heap.size = w1.heap.size + 2 := by simp
    simp only [World.size_alloc] at b6
    replace k0 := k0.then kz
    replace b3 := b3.keeps kz (by simp)
    replace b4 := b4.keeps kz (by simp)
    replace rO := RdW.keep rO kz
    replace rC := rC.keeps kz
    generalize ((w1.alloc (.cells #[.slice aO O.length cO] 25)).alloc (.cells #[.slice aC O.length cC] 26)) = W2 at *
    clear kz
    refine (HKY.out W2 k0).mono ?_
    rintro e w3 ⟨rfl, m, n, lv, bl, ow, bk, mp, hm, k3⟩
    obtain ⟨la, lc, rfl⟩ := own_form ow
    have rs := ow.reads
    have hg : ∃ g, g < w3.heap.size ∧ ∀ p, 0 < (allK l).length → la = some p → p.block = g := by
      rcases ow.2 with ⟨e, -⟩ | ⟨g, cp, cur, e, -, hgb, -⟩
      · refine ⟨W2.heap.size, bl.lt, fun p _ h => ?_⟩
        rw [h] at e; cases e
      · refine ⟨g, (Array.getElem?_eq_some_iff.1 hgb).1, fun p _ h => ?_⟩
        rw [h] at e; cases e; rfl
    obtain ⟨g, hgl, hg⟩ := hg
    replace k0 := k0.then k3
    replace b3 := b3.keeps k3 (by simp)
    replace b4 := b4.keeps k3 (by simp)
    replace b5 := b5.keeps k3 (by simp)
    replace b6 := b6.keeps k3 (by simp)
    have B3 := Lib.hid b3
    have B4 := Lib.hid b4
    have B5 := Lib.hid b5
    have B6 := Lib.hid b6
    have RO := Lib.hid (RdW.keep rO k3)
    have RC := Lib.hid (rC.keeps k3)
    have BL := Lib.hid bl
    have BK := Lib.hid bk
    have RS := Lib.hid rs
    have MP := Lib.hid mp
    have HG := Lib.hid hg
    have K0 := Lib.hid k0
    have hl3 := b3.lt
    have hl4 := b4.lt
    have hl5 := b5.lt
    have hl6 := b6.lt
    have hll := bl.lt
    have hlk := bk.lt
    have hlm := mp.lt
    have HS3 := Lib.hid k3.size
    have HW2 := Lib.hid hW2
    have HWF : Hid (∀ k ∈ allK l, KeyWf k) := fun k hk => by
      simp only [allK, List.mem_flatMap] at hk
      obtain ⟨b, h1, h2⟩ := hk
      exact keys_wf (HL.out b h1) h2
    have heqn : ∀ f x y w, (binOp .eql 30 (.func f x y) .nilFunc).run Tryz.prog w = .ok (.bool false) w := fun f x y w => by
      simp only [Go.binOp, Op.equal, Op.maxDepth]
      rw [show (10000 : Nat) = 9999 + 1 from rfl, Op.equalIn]
      simp [go_sem]
    clear b3 b4 b5 b6 rO rC bl bk rs mp hg k0 ow k3 hm hW2
    go_wp2_with fail
    refine wp_loop_rounds 3 ?_
    rw [rounds_succ]
    go_wp2_with fail
    have bT0 := (Blk.new w3 #[.int .i64 0] 3).alloc (.cells #[.int .i64 0] 3)
    have bN0 := Blk.new (w3.alloc (.cells #[.int .i64 0] 3)) #[.int .i64 0] 3
    simp only [World.size_alloc] at bN0
    have kz0 : Keeps w3 ((w3.alloc (.cells #[.int .i64 0] 3)).alloc (.cells #[.int .i64 0] 3)) [] := ((Keeps.refl w3 []).alloc _).alloc _
    have hsz0 : ((w3.alloc (.cells #[.int .i64 0] 3)).alloc (.cells #[.int .i64 0] 3)).heap.size = w3.heap.size + 2 := by simp
    refine range_PX (gf := 41) (lb := #[.pointer (some ⟨W2.heap.size, 0, none⟩), .pointer (some ⟨W2.heap.size + 1, 0, none⟩)]) rfl (enters_of Tryz.func41 (by kernel_rfl) rfl)
      (keys1_seq W2.heap.size (W2.heap.size + 1) m n g _ lc la (allK l) (cntL l) (knownF l) ((w3.alloc (.cells #[.int .i64 0] 3)).alloc (.cells #[.int .i64 0] 3)) (BL.out.keeps kz0 (by simp)) (BK.out.keeps kz0 (by simp)) (RdW.keep RS.out kz0) (fun p h0 h => HG.out p h0 h) (MP.out.keeps kz0 (by simp)) (fun q => knownF_get _ _) (fun q => by have := cnt_le l q; have := HFW.out.1; omega) (by have := HAK.out; omega) HWF.out) [w3.heap.size + 1] ?hC0 ?hfine0 (fun _ => rfl) 2
      (fun pre X => Blk X w3.heap.size #[.int .i64 0] 3 ∧ Blk X (w3.heap.size + 1) #[.int .i64 (pre.length : Nat)] 3 ∧ Keeps w3 X [] ∧ (pre.length = 0 ∨ (pre.length : Int) < many))
      (fun pre X => Blk X w3.heap.size #[.int .i64 0] 3 ∧ (∃ k : Nat, Hid ((k : Int) = manyK O.length many) ∧ Blk X (w3.heap.size + 1) #[.int .i64 k] 3) ∧ Keeps w3 X [])
      (fun X => Blk X w3.heap.size #[.int .i64 0] 3 ∧ (∃ k : Nat, Hid ((k : Int) = manyK O.length many) ∧ Blk X (w3.heap.size + 1) #[.int .i64 k] 3) ∧ Keeps w3 X [])
      ?hI0 ?hIx0 ?h00 ?hround0 ?hdone0 ?hstop0 ?hex0 ?hrest0
    case hC0 =>
      intro x hx
      have := List.mem_singleton.1 hx
      subst this
      exact ⟨by omega, by omega, by omega, by omega, by omega⟩
    case hfine0 => exact ⟨by omega, by omega, by omega, by omega⟩
    case hI0 =>
      rintro s A B ⟨h1, h2, h3, h4⟩ hab
      exact ⟨(hab.block _ (by omega)).trans h1, (hab.block _ (by omega)).trans h2, h3.belowT hab (by omega), h4⟩
    case hIx0 =>
      rintro s A B ⟨h1, ⟨k, hk, h2⟩, h3⟩ hab
      exact ⟨(hab.block _ (by omega)).trans h1, ⟨k, hk, (hab.block _ (by omega)).trans h2⟩, h3.belowT hab (by omega)⟩
    case hstop0 => exact fun pre X _ h => h
    case hex0 => exact fun a' W h => by simpa [Exit.inBlock, Exit.noGoto] using h
    case h00 => exact ⟨bT0, bN0, kz0, .inl rfl⟩
    case hdone0 =>
      rintro xs X hS ⟨h1, h2, h3, h4⟩
      rw [HO.out] at hS
      subst hS
      refine ⟨h1, ⟨_, manyK_done ?_, h2⟩, h3⟩
      exact h4
    case hround0 =>
      rintro l' pre x X2 hle hlt2 ⟨h1, h2, h3, h5⟩ hsp
      rw [HO.out] at hsp
      have hlt : pre.length < O.length := by have := hsp.length_le; simp at this; omega
      have hk : O[pre.length]? = some x := by
        obtain ⟨t, ht⟩ := hsp
        rw [← ht]
        simp
      gi_wp2
      refine ⟨Keeps.refl X2 _, fun X3 hT => ?_⟩
      have g1 := hT.blk h1
      have g2 := hT.blk h2
      have g3 : Keeps w3 X3 [] := h3.trans hT.keeps (fun j hj hlt => by have := List.mem_singleton.1 hj; omega)
      obtain ⟨t0, ft0⟩ := g1.one
      obtain ⟨n0, fn0⟩ := g2.one
      obtain ⟨m0, fm0⟩ := (B3.out.keeps g3 (by simp)).one
      obtain ⟨p0, fp0⟩ := (B5.out.keeps g3 (by simp)).one
      obtain ⟨q0, fq0⟩ := (B6.out.keeps g3 (by simp)).one
      obtain ⟨ob, oo, rfl, hob, hoc⟩ := RdS.at (RdW.keep RO.out g3) hk
      have hck : (cntsI (cntL l) O)[pre.length]? = some ((cntL l x : Nat) : Int) := by simp [cntsI, hk]
      obtain ⟨cb, co, rfl, hcb, hcc⟩ := (RC.out.keeps g3).at hck
      have hk1 : (pre.length : Int) < (O.length : Int) := by omega
      have hge : decide ((O.length : Int) ≤ (pre.length : Int)) = false := decide_eq_false (by omega)
      have G1 := Lib.hid g1
      have G2 := Lib.hid g2
      have G3 := Lib.hid g3
      have H5 := Lib.hid h5
      have HK := Lib.hid hk
      have hlt3 := g2.lt
      clear g1 g2 g3 h1 h2 h3 h5 hk hsp hck
      have k4 : Keeps X3 (X3.setCell ⟨w3.heap.size + 1, 0, none⟩ (.int .i64 ((pre.length : Int) + 1))) [w3.heap.size + 1] := (Keeps.refl X3 _).setCell (.inr (by simp)) _
      have e1 := G1.out.setOther (a := ⟨w3.heap.size + 1, 0, none⟩) (by dsimp only; omega) (.int .i64 ((pre.length : Int) + 1))
      have e2 := G2.out.set 0 (.int .i64 ((pre.length : Int) + 1))
      have e3 := G3.out.setCell (a := ⟨w3.heap.size + 1, 0, none⟩) (.inl (by dsimp only; omega)) (.int .i64 ((pre.length : Int) + 1))
      simp only [List.setIfInBounds_toArray, List.set_cons_zero] at e2
      have E1 := Lib.hid e1
      have E2 := Lib.hid e2
      have E3 := Lib.hid e3
      have K4 := Lib.hid k4
      clear e1 e2 e3 k4
      by_cases hmk : many ≤ (pre.length : Int) + 1
      · have hdm : decide (many ≤ (pre.length : Int) + 1) = true := by simpa using hmk
        gi_wp2
        exact ⟨K4.out, rfl, E1.out, ⟨pre.length + 1, manyK_stop hlt H5.out hmk, by simpa using E2.out⟩, E3.out⟩
      · have hdm : decide (many ≤ (pre.length : Int) + 1) = false := by simpa using hmk
        gi_wp2
        exact ⟨K4.out, E1.out, by simpa using E2.out, E3.out, .inr (by simp; omega)⟩
    case hrest0 =>
      rintro D X hD hK ⟨h1, ⟨k, hk, h2⟩, hk3⟩
      obtain ⟨t0, ft0⟩ := h1.one
      obtain ⟨n0, fn0⟩ := h2.one
      obtain ⟨m0, fm0⟩ := (B3.out.keeps hk3 (by simp)).one
      obtain ⟨p0, fp0⟩ := (B5.out.keeps hk3 (by simp)).one
      simp only [World.size_alloc] at hD
      have H1 := Lib.hid h1
      have H2 := Lib.hid h2
      have HD := Lib.hid hD
      have HKX := Lib.hid hK
      have HK3 := Lib.hid hk3
      have hx1 := h1.lt
      clear h1 h2 hD hK hk3
      go_upto_region 18 with fail
      go_cut [81] from 61 to 81 (fun s81 wx => s81 = .bool false ∧ wx = X)
      case first =>
        go_wp2_with fail
        all_goals
          go_meet
          first
            | exact ⟨rfl, rfl⟩
            | (exfalso; have hz := hk.out; unfold manyK at hz; repeat' split at hz
               all_goals omega)
      case rest =>
      obtain ⟨rfl, rfl⟩ := hcut
      go_wp2_with fail
      rw [rounds_succ]
      go_wp2_with fail
      have hk3 := HK3.out
      have hK := HKX.out
      have hD := HD.out
      have hsx := hk3.size
      have hDc : D < wc.heap.size := (Array.getElem?_eq_some_iff.1 hK).1
      clear t0 ft0 n0 fn0 m0 fm0 p0 fp0
      have bT1 := (Blk.new wc #[.int .i64 1] 3).alloc (.cells #[.int .i64 0] 3)
      have bN1 := Blk.new (wc.alloc (.cells #[.int .i64 1] 3)) #[.int .i64 0] 3
      simp only [World.size_alloc] at bN1
      have kz1 : Keeps w3 ((wc.alloc (.cells #[.int .i64 1] 3)).alloc (.cells #[.int .i64 0] 3)) [] := (hk3.alloc _).alloc _
      have hKD : ((wc.alloc (.cells #[.int .i64 1] 3)).alloc (.cells #[.int .i64 0] 3)).heap[D]? = some (.deferred (some [])) := (((Keeps.refl wc []).alloc (.cells #[.int .i64 1] 3)).alloc (.cells #[.int .i64 0] 3)).at hK (by simp)
      have hsz1 : ((wc.alloc (.cells #[.int .i64 1] 3)).alloc (.cells #[.int .i64 0] 3)).heap.size = wc.heap.size + 2 := by simp
      refine range_PX (gf := 41) (lb := #[.pointer (some ⟨W2.heap.size, 0, none⟩), .pointer (some ⟨W2.heap.size + 1, 0, none⟩)]) rfl (enters_of Tryz.func41 (by kernel_rfl) rfl)
        (keys1_seq W2.heap.size (W2.heap.size + 1) m n g _ lc la (allK l) (cntL l) (knownF l) ((wc.alloc (.cells #[.int .i64 1] 3)).alloc (.cells #[.int .i64 0] 3)) (BL.out.keeps kz1 (by simp)) (BK.out.keeps kz1 (by simp)) (RdW.keep RS.out kz1) (fun p h0 h => HG.out p h0 h) (MP.out.keeps kz1 (by simp)) (fun q => knownF_get _ _) (fun q => by have := cnt_le l q; have := HFW.out.1; omega) (by have := HAK.out; omega) HWF.out) [wc.heap.size + 1] ?hC1 ?hfine1 (fun _ => rfl) 2
        (fun pre X => Blk X wc.heap.size #[.int .i64 1] 3 ∧ Blk X (wc.heap.size + 1) #[.int .i64 (pre.length : Nat)] 3 ∧ Keeps w3 X [] ∧ X.heap[D]? = some (.deferred (some [])))
        (fun pre X => False)
        (fun X => Blk X wc.heap.size #[.int .i64 1] 3 ∧ Blk X (wc.heap.size + 1) #[.int .i64 O.length] 3 ∧ Keeps w3 X [] ∧ X.heap[D]? = some (.deferred (some [])))
        ?hI1 ?hIx1 ?h01 ?hround1 ?hdone1 ?hstop1 ?hex1 ?hrest1
      case hC1 =>
        intro x hx
        have := List.mem_singleton.1 hx
        subst this
        exact ⟨by omega, by omega, by omega, by omega, by omega⟩
      case hfine1 => exact ⟨by omega, by omega, by omega, by omega⟩
      case hI1 =>
        rintro s A B ⟨h1, h2, h3, h4⟩ hab
        exact ⟨(hab.block _ (by omega)).trans h1, (hab.block _ (by omega)).trans h2, h3.belowT hab (by omega), (hab.block _ (by omega)).trans h4⟩
      case hIx1 => exact fun s A B h _ => h
      case hstop1 => exact fun pre X _ h => h.elim
      case hex1 => exact fun a' W h => by simpa [Exit.inBlock, Exit.noGoto] using h
      case h01 => exact ⟨bT1, bN1, kz1, hKD⟩
      case hdone1 =>
        rintro xs X hS ⟨h1, h2, h3, h4⟩
        rw [HO.out] at hS
        subst hS
        exact ⟨h1, h2, h3, h4⟩
      case hround1 =>
        rintro l' pre x X2 hle hlt2 ⟨h1, h2, h3, h5⟩ hsp
        rw [HO.out] at hsp
        have hlt : pre.length < O.length := by have := hsp.length_le; simp at this; omega
        have hk : O[pre.length]? = some x := by
          obtain ⟨t, ht⟩ := hsp
          rw [← ht]
          simp
        gi_wp2
        refine ⟨Keeps.refl X2 _, fun X3 hT => ?_⟩
        have g1 := hT.blk h1
        have g2 := hT.blk h2
        have g3 : Keeps w3 X3 [] := h3.trans hT.keeps (fun j hj hlt => by have := List.mem_singleton.1 hj; omega)
        have g5 : X3.heap[D]? = some (.deferred (some [])) := hT.keeps.at h5 (by simp; omega)
        obtain ⟨t0, ft0⟩ := g1.one
        obtain ⟨n0, fn0⟩ := g2.one
        obtain ⟨p0, fp0⟩ := (B5.out.keeps g3 (by simp)).one
        obtain ⟨q0, fq0⟩ := (B6.out.keeps g3 (by simp)).one
        obtain ⟨ob, oo, rfl, hob, hoc⟩ := RdS.at (RdW.keep RO.out g3) hk
        have hck : (cntsI (cntL l) O)[pre.length]? = some ((cntL l x : Nat) : Int) := by simp [cntsI, hk]
        obtain ⟨cb, co, rfl, hcb, hcc⟩ := (RC.out.keeps g3).at hck
        have hk1 : (pre.length : Int) < (O.length : Int) := by omega
        have hge : decide ((O.length : Int) ≤ (pre.length : Int)) = false := decide_eq_false (by omega)
        have hlt3 := g2.lt
        have e1 := g1.setOther (a := ⟨wc.heap.size + 1, 0, none⟩) (by dsimp only; omega) (.int .i64 ((pre.length : Int) + 1))
        have e2 := g2.set 0 (.int .i64 ((pre.length : Int) + 1))
        have e3 := g3.setCell (a := ⟨wc.heap.size + 1, 0, none⟩) (.inl (by dsimp only; omega)) (.int .i64 ((pre.length : Int) + 1))
        simp only [List.setIfInBounds_toArray, List.set_cons_zero] at e2
        have k4 : Keeps X3 (X3.setCell ⟨wc.heap.size + 1, 0, none⟩ (.int .i64 ((pre.length : Int) + 1))) [wc.heap.size + 1] := (Keeps.refl X3 _).setCell (.inr (by simp)) _
        have E1 := Lib.hid e1
        have E2 := Lib.hid e2
        have E3 := Lib.hid e3
        have E5 := Lib.hid (k4.at g5 (by simp; omega))
        have K4 := Lib.hid k4
        clear g1 g2 g3 g5 h1 h2 h3 h5 hk hsp hck e1 e2 e3 k4
        gi_wp2
        exact ⟨K4.out, E1.out, by simpa using E2.out, E3.out, E5.out⟩
      case hrest1 =>
        rintro D' X hD' hK' ⟨h1, h2, h3, h4⟩
        obtain ⟨t0, ft0⟩ := h1.one
        obtain ⟨n0, fn0⟩ := h2.one
        obtain ⟨p0, fp0⟩ := (B5.out.keeps h3 (by simp)).one
        simp only [World.size_alloc] at hD'
        have H1 := Lib.hid h1
        have H3 := Lib.hid h3
        have H4 := Lib.hid h4
        have HD' := Lib.hid hD'
        have HKX' := Lib.hid hK'
        have hx2 := h2.lt
        clear h1 h2 hD' hK' h3 h4 hKD bT1 bN1 kz1 hK hk3
        go_wp2_with fail
        rw [rounds_succ]
        go_wp2_with fail
        refine (works_true _).mono ?_
        rintro e w9 ⟨rfl, kk⟩
        have h3 := H3.out
        have hK' := HKX'.out
        have hD := HD.out
        have hD' := HD'.out
        have b49 := ((B4.out.keeps h3 (by simp)).alloc (.cells #[.int .i64 2] 3)).keeps kk (by simp)
        obtain ⟨c4, f4⟩ := b49.one
        have hDX' : D' < X.heap.size := (Array.getElem?_eq_some_iff.1 hK').1
        have hDX : D < X.heap.size := (Array.getElem?_eq_some_iff.1 H4.out).1
        have hDD : D < D' := by omega
        have hsw := K0.out.size
        have kk2 : Keeps X (w9.setCell ⟨w.heap.size + 1, 0, none⟩ (.bool true)) [w.heap.size + 1] := (((Keeps.refl X [w.heap.size + 1]).alloc _).then kk).setCell (.inr (by simp)) _
        have e1 := kk2.at hK' (by simp; omega)
        have e2 := kk2.at H4.out (by simp; omega)
        have b4e := b49.set 0 (.bool true)
        simp only [List.setIfInBounds_toArray, List.set_cons_zero] at b4e
        have kF : Keeps w (w9.setCell ⟨w.heap.size + 1, 0, none⟩ (.bool true)) [] := (K0.out.then h3).trans kk2 (fun j hj hlt => by have := List.mem_singleton.1 hj; omega)
        go_wp2_with fail
        refine ⟨by simp, .inl ⟨_, _, rfl, run_takeDeferred e1, ?_⟩⟩
        refine ⟨by simp, .inl ⟨_, _, rfl, run_takeDeferred ((World.putObj_heap_other (by omega)).trans e2), ?_⟩⟩
        have hE : (((w9.setCell ⟨w.heap.size + 1, 0, none⟩ (.bool true)).putObj D' (.deferred none)).putObj D (.deferred none)).cell? ⟨w.heap.size + 1, 0, none⟩ = some (.bool true) := by
          have h1 : Blk (((w9.setCell ⟨w.heap.size + 1, 0, none⟩ (.bool true)).putObj D' (.deferred none)).putObj D (.deferred none)) (w.heap.size + 1) #[.bool true] 4 :=
            (World.putObj_heap_other (by omega)).trans ((World.putObj_heap_other (by omega)).trans b4e)
          exact h1.cell 0
        have hf : Below w.heap.size (w9.setCell ⟨w.heap.size + 1, 0, none⟩ (.bool true)) (((w9.setCell ⟨w.heap.size + 1, 0, none⟩ (.bool true)).putObj D' (.deferred none)).putObj D (.deferred none)) :=
          (Turn.below e1 (by omega)).trans (Turn.below ((World.putObj_heap_other (by omega)).trans e2) (by omega))
        exact ⟨_, res_cell Tryz.results3 rfl (Tryz.loadBool _ _ _ hE), rfl, kF.below.trans hf⟩
  · have HF1 := HF false (by simp [hf])
    obtain ⟨A1, n1, cp1, rfl, hn1, -⟩ := hv.form
    clear HF hv hf hn1 hl
    go_enter Tryz.func3, Tryz.ntmps3
    go_wp2_with (go_at_call 10; refine HF1.out.mono ?_; rintro e w5 ⟨rfl, rfl⟩)
    generalize ((w.alloc (.cells #[.int .i64 many] 3)).alloc (.cells #[.bool false] 4)) = W0 at *
    refine (works_true _).mono ?_
    rintro e w5 ⟨rfl, kk⟩
    have b6 := b4.keeps kk (by simp)
    obtain ⟨c6, f6⟩ := b6.one
    go_wp2
    exact bodyPost_ret (v := .bool true) (res_cell Tryz.results3 rfl (Tryz.loadBool _ _ _ (World.cell?_setCell_same' _ _ _ (by rw [c6]; rfl)))) rfl ⟨rfl, ((k0.then kk).setCell (.inl (by simp)) _).below⟩


end Go.Proofs.YtogengangfohfaaGreat
