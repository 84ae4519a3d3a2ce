/-
  The law's examples hold.
-/
import Derived.Test.YtogengangfohfaaGreatQ11
import Derived.Test.YtogengangfohfaaGreatQ20
import Derived.Test.YtogengangfohfaaGreatQ21
import Derived.Test.YtogengangfohfaaGreatQ23
import Derived.Test.YtogengangfohfaaGreatQ7
import Derived.Lib.SlBytesConst
import Derived.Deep.DeepCutAuto
import Derived.Deep.CutRange
namespace Go.Proofs.YtogengangfohfaaGreat
set_option linter.unusedVariables false
set_option linter.unusedSimpArgs false
set_option linter.unusedSectionVars false
open Go.RowKit

attribute [local go_sem] Oper.semAt_some

theorem Keeps.belowT {w A B : World} {n : Nat} (h : Keeps w A []) (hb : Below n A B) (hn : w.heap.size ≤ n) : Keeps w B [] :=
  ⟨hb.os.trans h.os, hb.tape.trans h.tape, hb.output.trans h.output, Nat.le_trans h.size hb.size, fun k hk hm => (hb.block k (by omega)).trans (h.block k hk hm)⟩
/-- A slice literal. -/
theorem RdI.lit {k : IntKind} (w : World) {l : List Int} {T : TypeId} {cs : Array Value} (fr : Nat × Nat) (hl : cs.toList = l.map (.int k)) {n cp : Nat} (hn : n = l.length) (hc : n ≤ cp) : RdI k (w.alloc (.cells cs T fr)) (.slice (some ⟨w.heap.size, 0, none⟩) n cp) l := by
  refine ⟨_, _, _, rfl, hn, (fun h => by cases h), fun h0 => ⟨hc, w.heap.size, 0, rfl, by simp, fun i x hx => ?_⟩⟩
  rw [Nat.zero_add, cell_of_row (w.alloc (.cells cs T fr)) w.heap.size i cs T fr (heap_alloc_new w _), ← Array.getElem?_toList, hl, List.getElem?_map, hx]
  rfl

/-- n zero bytes. -/
def zerosB (n : Nat) : Array Value := ((List.replicate n (0 : Int)).map (.int .u8)).toArray
theorem make_bytes (n : Nat) (hn : n ≤ 1000000) (w : World) : (Instr.makeSlice 33 (.int .i64 (n : Int)) (.int .i64 (n : Int))).run Tryz.prog w = .ok (.slice (some ⟨w.heap.size, 0, none⟩) n n) (w.alloc (.cells (zerosB n) 5)) := by
  obtain ⟨i0, hi, hz0, hz1, hz2⟩ := info_parts Tryz.infoByte
  have hr := run_make (P := Tryz.prog) w 33 5 i0 (.int .u8 0) Tryz.underlying33 hi hz0 .i64 .i64 n n (by omega) (Int.le_refl _) (by rw [hz2]; omega) (by omega)
  simp only [Int.toNat_natCast] at hr
  rw [hr]
  have e : (madeCells (Value.int .u8 0).cells (n * i0.size)) = zerosB n := by
    rw [hz1, Nat.mul_one]
    apply Array.toList_inj.1
    exact (toList_madeCells_one _ n).trans (by simp [zerosB])
  rw [e]
theorem rdI_zeros (n : Nat) (w : World) : RdI .u8 (w.alloc (.cells (zerosB n) 5)) (.slice (some ⟨w.heap.size, 0, none⟩) n n) (List.replicate n 0) :=
  RdI.lit w (0, 0) (by simp [zerosB]) (by simp) (Nat.le_refl _)
theorem rdL_two {w : World} {b : Nat} {v1 v2 : Value} {l1 l2 : List Int} {T : TypeId} (h : Blk w b #[v1, v2] T) (h1 : RdI .u8 w v1 l1) (h2 : RdI .u8 w v2 l2) : RdL .u8 w (.slice (some ⟨b, 0, none⟩) 2 2) [l1, l2] := by
  refine ⟨_, _, _, rfl, rfl, fun _ => ⟨Nat.le_refl _, b, 0, rfl, h.lt, fun i l hl => ?_⟩⟩
  rcases two_at hl with ⟨rfl, rfl⟩ | ⟨rfl, rfl⟩
  · exact ⟨v1, h.cell 0, h1⟩
  · exact ⟨v2, h.cell 1, h2⟩
theorem rdL_of {w : World} {base : Nat} {v : Value} {vs : List Value} {ls : List (List Int)} (hO : OwnV w base v vs) (hR : RdV .u8 w vs ls) : RdL .u8 w v ls := by
  obtain ⟨a, c, rfl⟩ := hO.shape
  refine ⟨_, _, _, rfl, hR.1, fun h0 => ?_⟩
  obtain ⟨u, hu⟩ : ∃ u, vs[0]? = some u := ⟨_, List.getElem?_eq_getElem h0⟩
  obtain ⟨-, hc, g, rfl, hg, -⟩ := hO.at hu
  refine ⟨hc, g, 0, rfl, hg, fun i l hl => ?_⟩
  obtain ⟨x, hx, hr⟩ := hR.2 i l hl
  obtain ⟨-, -, g', he, -, hcell⟩ := hO.at hx
  obtain rfl : g = g' := by injection he with he; injection he
  exact ⟨x, by rw [Nat.zero_add]; exact hcell, hr⟩
theorem RdL.at2 {w : World} {b o n c i : Nat} {ls : List (List Int)} {l : List Int} (h : RdL .u8 w (.slice (some ⟨b, o, none⟩) n c) ls) (hx : ls[i]? = some l) : ∃ ad cp, b < w.heap.size ∧ w.cell? ⟨b, o + i, none⟩ = some (.slice ad l.length cp) ∧ RdI .u8 w (.slice ad l.length cp) l ∧ n ≤ c := by
  obtain ⟨b', o', vi, he, h1, h2, h3, h4⟩ := h.at hx
  injection he with he
  injection he with e1 e2
  subst e1 e2
  obtain ⟨ad, m, cp, rfl, hm, -⟩ := h3.form
  subst hm
  exact ⟨ad, cp, h1, h2, h3, h4⟩
theorem Keeps.at {w w' : World} {S : List Nat} {D : Nat} {o : Obj} (k : Keeps w w' S) (h : w.heap[D]? = some o) (hn : D ∉ S) : w'.heap[D]? = some o :=
  (k.block D (Array.getElem?_eq_some_iff.1 h).1 hn).trans h
theorem rdS_two {w : World} {b : Nat} {k1 k2 : List Int} {x y : Value} {T : TypeId} (h : Blk w b #[x, y] T) (hx : x = keyS k1) (hy : y = keyS k2) : RdS w (.slice (some ⟨b, 0, none⟩) 2 2) [k1, k2] := by
  subst hx hy
  refine ⟨_, _, _, rfl, rfl, Nat.le_refl _, (fun h => by cases h), fun _ => ⟨b, 0, rfl, h.lt, fun i x hx => ?_⟩⟩
  intro j u hu
  have hj : j = 0 := by have := (List.getElem?_eq_some_iff.1 hu).1; simp [rowS] at this; omega
  subst hj
  simp [rowS] at hu
  rcases two_at hx with ⟨rfl, rfl⟩ | ⟨rfl, rfl⟩
  · subst hu; exact h.cell 0
  · subst hu; exact h.cell 1

set_option maxRecDepth 100000 in
set_option maxHeartbeats 4000000 in
theorem works_true (w : World) : Calls Tryz.prog 11 #[] w fun e w' => e = .returned (.bool true) ∧ Keeps w w' [] := by
  have hA : (Value.string { data := #[97, 98, 99, 100, 101, 102, 103] }) = keyS exA := by rfl
  have hB : (Value.string { data := #[120, 97, 98, 99, 100, 101, 102] }) = keyS exB := by rfl
  have hC : (Value.string { data := #[120, 121, 122, 120, 121, 122, 120] }) = keyS exC := by rfl
  have HA := Lib.hid hA
  have HB := Lib.hid hB
  have HC := Lib.hid hC
  clear hA hB hC
  have r0 := Blk.new w #[.bool false] 4
  have k0 : Keeps w (w.alloc (.cells #[.bool false] 4)) [] := (Keeps.refl w []).alloc _
  have hs0 : (w.alloc (.cells #[.bool false] 4)).heap.size = w.heap.size + 1 := by simp
  refine calls_of_marks Tryz.func11 rfl ?_
  simp only [Tryz.ntmps11, List.size_toArray, List.length_cons, List.length_nil, Nat.reduceAdd, Nat.reduceSub, Array.replicate_succ, Array.replicate_zero, List.push_toArray, List.append_toArray, List.nil_append, List.cons_append]
  go_wp2_with fail
  have b1 : Blk ((w.alloc (.cells #[.bool false] 4)).alloc (.cells #[.string { data := #[97, 98, 99, 100, 101, 102, 103] }, .string { data := #[120, 97, 98, 99, 100, 101, 102] }] 9)) (w.heap.size + 1) #[.string { data := #[97, 98, 99, 100, 101, 102, 103] }, .string { data := #[120, 97, 98, 99, 100, 101, 102] }] 9 := by
    have := Blk.new (w.alloc (.cells #[.bool false] 4)) #[.string { data := #[97, 98, 99, 100, 101, 102, 103] }, .string { data := #[120, 97, 98, 99, 100, 101, 102] }] 9
    rwa [hs0] at this
  have kz : Keeps (w.alloc (.cells #[.bool false] 4)) ((w.alloc (.cells #[.bool false] 4)).alloc (.cells #[.string { data := #[97, 98, 99, 100, 101, 102, 103] }, .string { data := #[120, 97, 98, 99, 100, 101, 102] }] 9)) [] := (Keeps.refl _ []).alloc _
  refine (texts_any _ ex1 _ (rdS_two b1 HA.out HB.out) ex_bytes.1 (by decide)).mono ?_
  rintro e w1 ⟨v1, rfl, rl1, k1⟩
  have r1 := (r0.keeps kz (by simp)).keeps k1 (by simp)
  have kk1 := (k0.then kz).then k1
  obtain ⟨a1, n1, c1, rfl, hn1, -⟩ := rl1.form
  obtain rfl : n1 = 2 := hn1
  have RL1 := Lib.hid rl1
  have hs1 := r1.lt
  clear r0 k0 hs0 b1 kz k1 rl1
  go_wp2_with fail
  have b2 := Blk.new w1 #[.string { data := #[97, 98, 99, 100, 101, 102, 103] }, .string { data := #[120, 121, 122, 120, 121, 122, 120] }] 9
  have kz : Keeps w1 (w1.alloc (.cells #[.string { data := #[97, 98, 99, 100, 101, 102, 103] }, .string { data := #[120, 121, 122, 120, 121, 122, 120] }] 9)) [] := (Keeps.refl _ []).alloc _
  refine (texts_any _ ex2 _ (rdS_two b2 HA.out HC.out) ex_bytes.2.1 (by decide)).mono ?_
  rintro e w2 ⟨v2, rfl, rl2, k2⟩
  have r2 := (r1.keeps kz (by simp)).keeps k2 (by simp)
  have kk2 := (kk1.then kz).then k2
  have RL1b := Lib.hid (RL1.out.keeps (kz.then k2))
  obtain ⟨a2, n2, c2, rfl, hn2, -⟩ := rl2.form
  obtain rfl : n2 = 2 := hn2
  have RL2 := Lib.hid rl2
  have hs2 := r2.lt
  clear r1 kk1 RL1 hs1 b2 kz k2 rl2
  have HKY := Lib.hid (keysfn_any _ ex1 w2 RL1b.out ex_bytes.1 ex1_may)
  have heqn : ∀ f x y w, (binOp .eql 30 (.func f x y) .nilFunc).run Tryz.prog w = .ok (.bool false) w := fun f x y w => by
    simp only [Go.binOp, Op.equal, Op.maxDepth]
    rw [show (10000 : Nat) = 9999 + 1 from rfl, Op.equalIn]
    simp [go_sem]
  go_wp2_with fail
  refine HKY.out.mono ?_
  rintro e w3 ⟨rfl, m, n, lv, bl, ow, bk, mp, hm, k3⟩
  have r3 := r2.keeps k3 (by simp)
  have kk3 := kk2.then k3
  have RL1c := Lib.hid (RL1b.out.keeps k3)
  have RL2c := Lib.hid (RL2.out.keeps k3)
  obtain ⟨la, lc, rfl⟩ := own_form ow
  have rs3 := ow.reads
  have hg : ∃ g, g < w3.heap.size ∧ ∀ p, 0 < (allK ex1).length → la = some p → p.block = g := by
    rcases ow.2 with ⟨e, -⟩ | ⟨g, cp, cur, e, -, hgb, -⟩
    · refine ⟨w2.heap.size, bl.lt, fun p _ h => ?_⟩
      rw [h] at e; cases e
    · refine ⟨g, (Array.getElem?_eq_some_iff.1 hgb).1, fun p _ h => ?_⟩
      rw [h] at e; cases e; rfl
  obtain ⟨g, hgl, hg⟩ := hg
  have hbl3 := bl.lt
  have hlm := mp.lt
  have hs3 := k3.size
  have hlk := bk.lt
  have hs33 := r3.lt
  clear r2 kk2 RL1b RL2 HKY k3
  go_wp2_with fail
  have kz : Keeps w3 (w3.alloc (.cells #[.int .i64 0] 3)) [] := (Keeps.refl _ []).alloc _
  have r4 := r3.keeps kz (by simp)
  have n4 := Blk.new w3 #[.int .i64 0] 3
  have hsz : (w3.alloc (.cells #[.int .i64 0] 3)).heap.size = w3.heap.size + 1 := by simp
  have bl4 := bl.keeps kz (by simp)
  have bk4 := bk.keeps kz (by simp)
  have rs4 := RdW.keep rs3 kz
  have mp4 := mp.keeps kz (by simp)
  have HG := Lib.hid hg
  have hwf : ∀ k ∈ allK ex1, KeyWf k := fun k hk => by
    simp only [allK, List.mem_flatMap] at hk
    obtain ⟨b, h1, h2⟩ := hk
    exact keys_wf (ex_bytes.1 b h1) h2
  have hak : (allK ex1).length ≤ 1000000000 := by decide +kernel
  generalize (w3.alloc (.cells #[.int .i64 0] 3)) = Z at *
  refine range_PX (gf := 41) (lb := #[.pointer (some ⟨w2.heap.size, 0, none⟩), .pointer (some ⟨w2.heap.size + 1, 0, none⟩)]) rfl (enters_of Tryz.func41 (by kernel_rfl) rfl)
    (keys1_seq w2.heap.size (w2.heap.size + 1) m n g _ lc la (allK ex1) (cntL ex1) (knownF ex1) Z bl4 bk4 rs4 (fun p h0 h => HG.out p h0 h) mp4 (fun q => knownF_get _ _) (fun q => by have := cnt_le ex1 q; have : ex1.length = 2 := rfl; omega) hak hwf) [w3.heap.size] ?hC ?hfine (fun _ => rfl) 0
    (fun pre X => Blk X w.heap.size #[.bool false] 4 ∧ Blk X w3.heap.size #[.int .i64 (pre.length : Nat)] 3 ∧ Keeps w3 X [])
    (fun pre X => False)
    (fun X => Blk X w.heap.size #[.bool false] 4 ∧ Blk X w3.heap.size #[.int .i64 1] 3 ∧ Keeps w3 X [])
    ?hI ?hIx ?h0 ?hround ?hdone ?hstop ?hex ?hrest
  case hC =>
    intro x hx
    have := List.mem_singleton.1 hx
    subst this
    exact ⟨by omega, by omega, by omega, by omega, by omega⟩
  case hfine => exact ⟨by omega, by omega, by omega, by omega⟩
  case hI =>
    rintro s A B ⟨h1, h2, h3⟩ hab
    exact ⟨(hab.block _ (by omega)).trans h1, (hab.block _ (by omega)).trans h2, h3.belowT hab (by omega)⟩
  case hIx => exact fun s A B h _ => h
  case hstop => exact fun pre X _ h => h.elim
  case hex => exact fun a' W h => by simpa [Exit.inBlock, Exit.noGoto] using h
  case h0 => exact ⟨r4, n4, kz⟩
  case hdone =>
    rintro xs X hS ⟨h1, h2, h3⟩
    rw [hS, ex1_keys] at h2
    exact ⟨h1, h2, h3⟩
  case hround =>
    rintro l' pre x W2 hle hlt2 ⟨h1, h2, h3⟩ hsp
    rw [ex1_keys] at hsp
    have hpx : pre = [] ∧ x = exK := by
      obtain ⟨t, ht⟩ := hsp
      cases pre with
      | nil => simp at ht; exact ⟨rfl, ht.1⟩
      | cons y ys => simp at ht
    obtain ⟨rfl, rfl⟩ := hpx
    gi_wp2
    refine ⟨Keeps.refl W2 _, fun W3 hT => ?_⟩
    have g1 := hT.blk h1
    have g2 := hT.blk h2
    have g3 : Keeps w3 W3 [] := h3.trans hT.keeps (fun j hj hlt => by have := List.mem_singleton.1 hj; omega)
    obtain ⟨d0, -⟩ := g1.one
    obtain ⟨n0, f0⟩ := g2.one
    simp only [List.length_nil, Int.natCast_zero] at n0
    rw [ex1_cnt]
    rw [show keyS exK = Value.string { data := #[97, 98, 99, 100, 101, 102] } from rfl]
    have G1 := Lib.hid g1
    have G2 := Lib.hid g2
    have G3 := Lib.hid g3
    have hlt3 := g2.lt
    clear g1 g2 g3 hT h1 h2 h3
    gi_wp2
    refine ⟨(Keeps.refl W3 _).setCell (.inr (by simp)) _, G1.out.setOther (by dsimp only; omega) _, ?_, G3.out.setCell (.inl (by dsimp only; omega)) _⟩
    have := G2.out.set 0 (.int .i64 1)
    simpa using this
  case hrest =>
    rintro D X hD hK ⟨h1, h2, h3⟩
    obtain ⟨q0, q1⟩ := h1.one
    obtain ⟨n0, f0⟩ := h2.one
    have RA := Lib.hid (RL1c.out.keeps h3)
    have RB := Lib.hid (RL2c.out.keeps h3)
    obtain ⟨bb, oo, vi, rfl, hbb, hcc, hri, hcap⟩ := RA.out.at (i := 0) (l := exA) rfl
    obtain ⟨sa, sn, sc, rfl, hsn, -⟩ := hri.form
    obtain rfl : sn = 7 := hsn
    have hbbX := hbb
    have HS1 := Lib.hid (score_any (.slice sa 7 sc) (.slice (some ⟨bb, oo, none⟩) 2 c1) exA ex1 X hri (ex_bytes.1 exA (by decide)) (by decide) RA.out ex_bytes.1 (by decide))
    have hsc : scoreN exA ex1 = 1 := by unfold scoreN; rw [if_pos ex1_may]; exact ex1_score
    have hbd : badN ex1 = 0 := by unfold badN; rw [if_pos ex1_may]
    rw [hsc, hbd] at HS1
    have H1 := Lib.hid h1
    have H2 := Lib.hid h2
    have H3 := Lib.hid h3
    have HK := Lib.hid hK
    rw [Nat.add_zero] at hcc
    clear hsc hri h1 h2 h3
    go_wp2_with fail
    refine HS1.out.mono ?_
    rintro e Y ⟨rfl, kY⟩
    have RA' := Lib.hid (RA.out.keeps kY)
    have RB' := Lib.hid (RB.out.keeps kY)
    have H1' := Lib.hid (H1.out.keeps kY (by simp))
    have H2' := Lib.hid (H2.out.keeps kY (by simp))
    have H3' := Lib.hid (H3.out.then kY)
    have HK1 := Lib.hid (kY.at HK.out (by simp))
    have kc := fun (C : Array Value) (n c : Nat) => Lib.run_convert_bytes_const (P := Tryz.prog) Y 33 5 C n c Tryz.underlying33 Tryz.underlying5
    go_wp2_with fail
    have kA := (Keeps.refl Y []).alloc (.cells #[.int .u8 97, .int .u8 98, .int .u8 99] 5 (3, 3 + 1))
    have HL := RdI.lit (k := .u8) Y (l := [97, 98, 99]) (T := 5) (cs := #[.int .u8 97, .int .u8 98, .int .u8 99]) (3, 3 + 1) rfl (n := 3) (cp := 3) rfl (Nat.le_refl _)
    have hsc : scoreN [97, 98, 99] ex1 = 0 := by unfold scoreN; rw [if_pos ex1_may]; exact ex1_score2
    have HS2 := Lib.hid (score_any _ _ [97, 98, 99] ex1 _ HL (by decide) (by decide) (RA'.out.keeps kA) ex_bytes.1 (by decide))
    rw [hsc, hbd] at HS2
    refine HS2.out.mono ?_
    rintro e Z ⟨rfl, kZ⟩
    have kYZ := kA.then kZ
    have RA2 := Lib.hid (RA'.out.keeps kYZ)
    have RB2 := Lib.hid (RB'.out.keeps kYZ)
    have G1 := Lib.hid (H1'.out.keeps kYZ (by simp))
    have G2 := Lib.hid (H2'.out.keeps kYZ (by simp))
    have G3 := Lib.hid (H3'.out.then kYZ)
    have HK2 := Lib.hid (kYZ.at HK1.out (by simp))
    clear RA RB H1 H2 H3 RA' RB' H1' H2' H3' HS1 HS2 HL kA kYZ kc hsc
    go_wp2_with fail
    go_cut [11, 12] from 40 to 61 (fun s11 s12 wx => s12 = .int .i64 0 ∧ RdL .u8 wx s11 [List.replicate 32 0, List.replicate 6 0] ∧ Keeps Z wx [])
    case first =>
      have mk1 : ∀ w, (Instr.makeSlice 33 (.int .i64 38) (.int .i64 38)).run Tryz.prog w = .ok (.slice (some ⟨w.heap.size, 0, none⟩) 38 38) (w.alloc (.cells (zerosB 38) 5)) := make_bytes 38 (by decide)
      have mk2 : ∀ w, (Instr.makeSlice 33 (.int .i64 5) (.int .i64 5)).run Tryz.prog w = .ok (.slice (some ⟨w.heap.size, 0, none⟩) 5 5) (w.alloc (.cells (zerosB 5) 5)) := make_bytes 5 (by decide)
      refine wp_calmU ?_
      refine wp_region_held_drew (S := (fun _ => True)) (by kernel_rfl) trivial (fun hHeld => ?_)
      refine call2L (i := 0) (j := 1) rfl rfl (by kernel_rfl) (fun Kont hK => ?_) (fun Kont hK => ?_)
      · rw [if_pos (by rfl)]
        have q1 := rdI_zeros 38 Z
        have q2 := rdI_zeros 5 (Z.alloc (.cells (zerosB 38) 5))
        have kq1 := (Keeps.refl Z []).alloc (.cells (zerosB 38) 5)
        have kq2 := (Keeps.refl (Z.alloc (.cells (zerosB 38) 5)) []).alloc (.cells (zerosB 5) 5)
        have kq3 := ((Keeps.refl ((Z.alloc (.cells (zerosB 38) 5)).alloc (.cells (zerosB 5) 5)) []).alloc (.cells #[.slice (some ⟨Z.heap.size, 0, none⟩) 38 38, .slice (some ⟨Z.heap.size + 1, 0, none⟩) 5 5] 33)).drew
        replace q1 := (q1.keeps kq2).keeps kq3
        replace q2 := q2.keeps kq3
        have bq := (Blk.new ((Z.alloc (.cells (zerosB 38) 5)).alloc (.cells (zerosB 5) 5)) #[.slice (some ⟨Z.heap.size, 0, none⟩) 38 38, .slice (some ⟨Z.heap.size + 1, 0, none⟩) 5 5] 33).drew
        have kq0 := (kq1.then kq2).then kq3
        simp only [World.size_alloc] at q2 bq
        have HZ := Lib.hid (seg_any _ exZ _ (rdL_two bq q1 q2) (by decide))
        clear kq1 kq2 kq3 q1 q2 bq
        go_simp
        refine hK.out _ _ trivial (fun hHeld => ?_)
        clear hK Kont
        refine callL (i := 1) rfl (by kernel_rfl) (fun Kont hK => ?_)
        go_simp
        refine hK.out _ _ trivial (fun hHeld => ?_)
        clear hK Kont
        refine callL (i := 2) rfl (by kernel_rfl) (fun Kont hK => ?_)
        go_simp
        refine hK.out _ _ trivial (fun hHeld => ?_)
        clear hK Kont
        refine callL (i := 3) rfl (by kernel_rfl) (fun Kont hK => ?_)
        go_simp
        refine HZ.out.mono ?_
        rintro e W ⟨k4, ⟨-, vz, vs, rfl, oz, pz⟩ | ⟨hne, -⟩⟩
        · have rz := rdL_of oz pz.1
          rw [exZ_pieces] at rz
          replace kq0 := kq0.then k4
          obtain ⟨az, cz, rfl⟩ := oz.shape
          clear HZ oz pz k4
          go_wp2_with fail
          refine hK.out _ _ trivial (fun hHeld => ?_)
          clear hK Kont
          refine takeL (i := 4) (v := ?_) rfl (by kernel_rfl) (by kernel_rfl) (by kernel_rfl) (fun _ _ _ h => h) (by rfl) ?_ (by assumption) ?_
          rotate_left
          · (intro w9 hSw; clear hSw; go_simp; (try with_reducible rfl))
          try simp only [Act.put, List.setIfInBounds_toArray, List.set_cons_zero, List.set_cons_succ]
          refine takeL (i := 5) (v := ?_) rfl (by kernel_rfl) (by kernel_rfl) (by kernel_rfl) (fun _ _ _ h => h) (by rfl) ?_ (by assumption) ?_
          rotate_left
          · (intro w9 hSw; clear hSw; go_simp; (try with_reducible rfl))
          try simp only [Act.put, List.setIfInBounds_toArray, List.set_cons_zero, List.set_cons_succ]
          refine takeL (i := 6) (v := ?_) rfl (by kernel_rfl) (by kernel_rfl) (by kernel_rfl) (fun _ _ _ h => h) (by rfl) ?_ (by assumption) ?_
          rotate_left
          · (intro w9 hSw; clear hSw; go_simp; (try with_reducible rfl))
          try simp only [Act.put, List.setIfInBounds_toArray, List.set_cons_zero, List.set_cons_succ]
          refine takeL (i := 7) (v := ?_) rfl (by kernel_rfl) (by kernel_rfl) (by kernel_rfl) (fun _ _ _ h => h) (by rfl) ?_ (by assumption) ?_
          rotate_left
          · (intro w9 hSw; clear hSw; go_simp; (try with_reducible rfl))
          try simp only [Act.put, List.setIfInBounds_toArray, List.set_cons_zero, List.set_cons_succ]
          refine takeL (i := 8) (v := ?_) rfl (by kernel_rfl) (by kernel_rfl) (by kernel_rfl) (fun _ _ _ h => h) (by rfl) ?_ (by assumption) ?_
          rotate_left
          · (intro w9 hSw; clear hSw; go_simp; (try with_reducible rfl))
          try simp only [Act.put, List.setIfInBounds_toArray, List.set_cons_zero, List.set_cons_succ]
          refine wpAnyH_done (by kernel_rfl) ?_ _
          refine calmU_normal ?_
          go_wp2_with fail
          go_meet
          exact ⟨rfl, rz, kq0⟩
        · exact absurd exZ_may hne
      · rw [if_pos (by rfl)]
        have q1 := rdI_zeros 5 Z
        have q2 := rdI_zeros 38 (Z.alloc (.cells (zerosB 5) 5))
        have kq1 := (Keeps.refl Z []).alloc (.cells (zerosB 5) 5)
        have kq2 := (Keeps.refl (Z.alloc (.cells (zerosB 5) 5)) []).alloc (.cells (zerosB 38) 5)
        have kq3 := ((Keeps.refl ((Z.alloc (.cells (zerosB 5) 5)).alloc (.cells (zerosB 38) 5)) []).alloc (.cells #[.slice (some ⟨Z.heap.size + 1, 0, none⟩) 38 38, .slice (some ⟨Z.heap.size, 0, none⟩) 5 5] 33)).drew
        replace q1 := (q1.keeps kq2).keeps kq3
        replace q2 := q2.keeps kq3
        have bq := (Blk.new ((Z.alloc (.cells (zerosB 5) 5)).alloc (.cells (zerosB 38) 5)) #[.slice (some ⟨Z.heap.size + 1, 0, none⟩) 38 38, .slice (some ⟨Z.heap.size, 0, none⟩) 5 5] 33).drew
        have kq0 := (kq1.then kq2).then kq3
        simp only [World.size_alloc] at q2 bq
        have HZ := Lib.hid (seg_any _ exZ _ (rdL_two bq q2 q1) (by decide))
        clear kq1 kq2 kq3 q1 q2 bq
        go_simp
        refine hK.out _ _ trivial (fun hHeld => ?_)
        clear hK Kont
        refine callL (i := 0) rfl (by kernel_rfl) (fun Kont hK => ?_)
        go_simp
        refine hK.out _ _ trivial (fun hHeld => ?_)
        clear hK Kont
        refine callL (i := 2) rfl (by kernel_rfl) (fun Kont hK => ?_)
        go_simp
        refine hK.out _ _ trivial (fun hHeld => ?_)
        clear hK Kont
        refine callL (i := 3) rfl (by kernel_rfl) (fun Kont hK => ?_)
        go_simp
        refine HZ.out.mono ?_
        rintro e W ⟨k4, ⟨-, vz, vs, rfl, oz, pz⟩ | ⟨hne, -⟩⟩
        · have rz := rdL_of oz pz.1
          rw [exZ_pieces] at rz
          replace kq0 := kq0.then k4
          obtain ⟨az, cz, rfl⟩ := oz.shape
          clear HZ oz pz k4
          go_wp2_with fail
          refine hK.out _ _ trivial (fun hHeld => ?_)
          clear hK Kont
          refine takeL (i := 4) (v := ?_) rfl (by kernel_rfl) (by kernel_rfl) (by kernel_rfl) (fun _ _ _ h => h) (by rfl) ?_ (by assumption) ?_
          rotate_left
          · (intro w9 hSw; clear hSw; go_simp; (try with_reducible rfl))
          try simp only [Act.put, List.setIfInBounds_toArray, List.set_cons_zero, List.set_cons_succ]
          refine takeL (i := 5) (v := ?_) rfl (by kernel_rfl) (by kernel_rfl) (by kernel_rfl) (fun _ _ _ h => h) (by rfl) ?_ (by assumption) ?_
          rotate_left
          · (intro w9 hSw; clear hSw; go_simp; (try with_reducible rfl))
          try simp only [Act.put, List.setIfInBounds_toArray, List.set_cons_zero, List.set_cons_succ]
          refine takeL (i := 6) (v := ?_) rfl (by kernel_rfl) (by kernel_rfl) (by kernel_rfl) (fun _ _ _ h => h) (by rfl) ?_ (by assumption) ?_
          rotate_left
          · (intro w9 hSw; clear hSw; go_simp; (try with_reducible rfl))
          try simp only [Act.put, List.setIfInBounds_toArray, List.set_cons_zero, List.set_cons_succ]
          refine takeL (i := 7) (v := ?_) rfl (by kernel_rfl) (by kernel_rfl) (by kernel_rfl) (fun _ _ _ h => h) (by rfl) ?_ (by assumption) ?_
          rotate_left
          · (intro w9 hSw; clear hSw; go_simp; (try with_reducible rfl))
          try simp only [Act.put, List.setIfInBounds_toArray, List.set_cons_zero, List.set_cons_succ]
          refine takeL (i := 8) (v := ?_) rfl (by kernel_rfl) (by kernel_rfl) (by kernel_rfl) (fun _ _ _ h => h) (by rfl) ?_ (by assumption) ?_
          rotate_left
          · (intro w9 hSw; clear hSw; go_simp; (try with_reducible rfl))
          try simp only [Act.put, List.setIfInBounds_toArray, List.set_cons_zero, List.set_cons_succ]
          refine wpAnyH_done (by kernel_rfl) ?_ _
          refine calmU_normal ?_
          go_wp2_with fail
          go_meet
          exact ⟨rfl, rz, kq0⟩
        · exact absurd exZ_may hne
    case rest =>
      obtain ⟨rfl, rz, kz⟩ := hcut
      obtain ⟨az, nz, cz, rfl, hnz, -⟩ := rz.form
      obtain rfl : nz = 2 := hnz
      obtain ⟨bz, oz, -, rfl, -⟩ := rz.at (i := 0) (l := List.replicate 32 0) rfl
      have RA3 := Lib.hid (RA2.out.keeps kz)
      have RB3 := Lib.hid (RB2.out.keeps kz)
      have RZ3 := Lib.hid rz
      have J1 := Lib.hid (G1.out.keeps kz (by simp))
      have J2 := Lib.hid (G2.out.keeps kz (by simp))
      have J3 := Lib.hid (G3.out.then kz)
      have HK3 := Lib.hid (kz.at HK2.out (by simp))
      clear RA2 RB2 G1 G2 G3 rz kz
      have HC1 : Hid (Calls Tryz.prog 19 #[.slice (some ⟨bb, oo, none⟩) 2 c1, .int .i64 8] wc (ContEnd wc ex1 8)) := cont_ok _ ex1 8 wc RA3.out ex_bytes.1 ex1_may (by decide) (by decide)
      go_wp2_with fail
      refine HC1.out.mono ?_
      rintro e W5 ⟨v5, o5, rfl, r5, g5, k5⟩
      obtain rfl := ex1_one g5
      obtain ⟨a5, n5, c5, rfl, hn5, -⟩ := r5.form
      obtain rfl : n5 = 7 := hn5
      have RA4 := Lib.hid (RA3.out.keeps k5)
      have RB4 := Lib.hid (RB3.out.keeps k5)
      have RZ4 := Lib.hid (RZ3.out.keeps k5)
      have R5 := Lib.hid r5
      have L1 := Lib.hid (J1.out.keeps k5 (by simp))
      have L2 := Lib.hid (J2.out.keeps k5 (by simp))
      have L3 := Lib.hid (J3.out.then k5)
      have HK4 := Lib.hid (k5.at HK3.out (by simp))
      clear RA3 RB3 RZ3 J1 J2 J3 g5 k5 r5 HC1
      have HC2 : Hid (Calls Tryz.prog 19 #[.slice a2 2 c2, .int .i64 8] W5 (ContEnd W5 ex2 8)) := cont_ok _ ex2 8 W5 RB4.out ex_bytes.2.1 ex2_may (by decide) (by decide)
      go_wp2_with fail
      refine HC2.out.mono ?_
      rintro e W6 ⟨v6, o6, rfl, r6, g6, k6⟩
      obtain rfl := ex2_one g6
      obtain ⟨a6, n6, c6, rfl, hn6, -⟩ := r6.form
      obtain rfl : n6 = 0 := hn6
      have RA5 := Lib.hid (RA4.out.keeps k6)
      have RB5 := Lib.hid (RB4.out.keeps k6)
      have RZ5 := Lib.hid (RZ4.out.keeps k6)
      have R6 := Lib.hid (R5.out.keeps k6)
      have M1 := Lib.hid (L1.out.keeps k6 (by simp))
      have M2 := Lib.hid (L2.out.keeps k6 (by simp))
      have M3 := Lib.hid (L3.out.then k6)
      have HK5 := Lib.hid (k6.at HK4.out (by simp))
      clear RA4 RB4 RZ4 R5 L1 L2 L3 g6 k6 r6 HC2
      have HC3 : Hid (Calls Tryz.prog 19 #[.slice a2 2 c2, .int .i64 7] W6 (BadEnd W6)) := cont_bad _ ex2 7 W6 RB5.out (by decide) (fun h => absurd h.2.1 (by decide))
      go_wp2_with fail
      refine HC3.out.mono ?_
      rintro e W7 ⟨rfl, k7⟩
      have RA6 := Lib.hid (RA5.out.keeps k7)
      have RZ6 := Lib.hid (RZ5.out.keeps k7)
      have R7 := Lib.hid (R6.out.keeps k7)
      have P1 := Lib.hid (M1.out.keeps k7 (by simp))
      have P2 := Lib.hid (M2.out.keeps k7 (by simp))
      have P3 := Lib.hid (M3.out.then k7)
      have HK6 := Lib.hid (k7.at HK5.out (by simp))
      clear RA5 RB5 RZ5 R6 M1 M2 M3 k7 HC3
      have HT : Hid (Calls Tryz.prog 21 #[.slice (some ⟨bb, oo, none⟩) 2 c1, .int .i64 8] W7 (TrEnd W7 22)) := train_short _ ex1 8 W7 RA6.out ex_bytes.1 ex1_may (by decide) (by decide) (fun out h => by rw [ex1_one h]; decide)
      go_wp2_with fail
      refine HT.out.mono ?_
      rintro e W8 ⟨rfl, k8⟩
      have RZ7 := Lib.hid (RZ6.out.keeps k8)
      have R8 := Lib.hid (R7.out.keeps k8)
      have Q1 := Lib.hid (P1.out.keeps k8 (by simp))
      have Q2 := Lib.hid (P2.out.keeps k8 (by simp))
      have Q3 := Lib.hid (P3.out.then k8)
      have HK7 := Lib.hid (k8.at HK6.out (by simp))
      clear RA6 RZ6 R7 P1 P2 P3 k8 HT
      have k89 := (Keeps.refl W8 []).alloc (.cells zero12 56)
      have S1 := Lib.hid (Q1.out.keeps k89 (by simp))
      have S3 := Lib.hid (Q3.out.then k89)
      have HK8 := Lib.hid (k89.at HK7.out (by simp))
      obtain ⟨e2, f2⟩ := (Q2.out.keeps k89 (by simp)).one
      obtain ⟨e1, f1⟩ := S1.out.one
      obtain ⟨d0, p0, l0, m0, -, hcap0⟩ := (RZ7.out.keeps k89).at2 (i := 0) (l := List.replicate 32 0) rfl
      obtain ⟨d1, p1, -, m1, -, -⟩ := (RZ7.out.keeps k89).at2 (i := 1) (l := List.replicate 6 0) rfl
      have hcv : (convert 33 9 (.slice a5 7 c5)).run Tryz.prog (W8.alloc (.cells zero12 56)) = .ok (.string { data := #[97, 98, 99, 100, 101, 102, 103] }) (W8.alloc (.cells zero12 56)) := by
        rw [HA.out]
        exact str_of (R8.out.keeps k89) Tryz.underlying33 Tryz.underlying5 Tryz.underlying9
      rw [Nat.add_zero] at m0
      simp only [List.length_replicate] at m0 m1
      clear k89
      go_wp2_with (go_at_call 16; refine (num_any _ _).mono ?_; rintro e w9 ⟨rfl, rfl⟩)
      have hDn : D ≠ w.heap.size := fun h => by subst h; have h1 := S1.out; have h2 := HK8.out; unfold Blk at h1; rw [h2] at h1; cases h1
      have kF : Keeps w ((W8.alloc (.cells zero12 56)).setCell ⟨w.heap.size, 0, none⟩ (.bool true)) [] := (kk3.then S3.out).setCell (.inl (Nat.le_refl _)) _
      have hF : (((W8.alloc (.cells zero12 56)).setCell ⟨w.heap.size, 0, none⟩ (.bool true))).heap[D]? = some (.deferred (some [])) := ((Keeps.refl (W8.alloc (.cells zero12 56)) [w.heap.size]).setCell (.inr (by simp)) (.bool true)).at HK8.out (by simpa using hDn)
      have bF := S1.out.set 0 (.bool true)
      simp only [List.setIfInBounds_toArray, List.set_cons_zero] at bF
      refine ⟨by simp, .inl ⟨_, _, rfl, run_takeDeferred hF, ?_⟩⟩
      have hE : ((((W8.alloc (.cells zero12 56)).setCell ⟨w.heap.size, 0, none⟩ (.bool true))).putObj D (.deferred none)).cell? ⟨w.heap.size, 0, none⟩ = some (.bool true) := by
        have h1 : Blk ((((W8.alloc (.cells zero12 56)).setCell ⟨w.heap.size, 0, none⟩ (.bool true))).putObj D (.deferred none)) w.heap.size #[.bool true] 4 := (World.putObj_heap_other (by omega)).trans bF
        exact h1.cell 0
      exact ⟨_, res_cell Tryz.results11 rfl (Tryz.loadBool _ _ _ hE), rfl, kF.belowT (Turn.below (B := w.heap.size) hF (by omega)) (Nat.le_refl _)⟩


end Go.Proofs.YtogengangfohfaaGreat
