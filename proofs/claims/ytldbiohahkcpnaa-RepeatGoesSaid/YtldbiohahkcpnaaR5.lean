/-
  Walks over the reference of package repeat: Offsets.
-/
import Derived.Test.YtldbiohahkcpnaaR2
import Derived.Test.YtldbiohahkcpnaaW10b
import Derived.Deep.RegionHeld3
import Derived.Deep.DeepCutAuto
import Derived.Deep.AppendLies
import Derived.RangeFuncBox
namespace Go.Proofs.Ytldbiohahkcpnaa
set_option linter.unusedVariables false
set_option linter.unusedSimpArgs false
open Go.RowKit

/-- What the loop of the reference keeps: the current offsets, the result's place, the row that it has made. -/
structure RefInv (w : World) (T : TypeId) (x : Value) (out : List I3) (a b c : Int) (W : World) : Prop where
  cur : Blk W w.heap.size #[.int .i64 a, .int .i64 b, .int .i64 c] 22
  res : Blk W (w.heap.size + 1) #[.int .i64 0, .int .i64 0, .int .i64 0] 22
  row : W.ownsRow (w.heap.size + 2) T 3 x out.length (cellsL out)
  keeps : Keeps w W []
theorem RefInv.then {w W W' : World} {T : TypeId} {x : Value} {out : List I3} {a b c : Int} (h : RefInv w T x out a b c W) (k : Keeps W W' []) : RefInv w T x out a b c W' :=
  ⟨h.cur.keeps k (by simp), h.res.keeps k (by simp), h.row.kept (row := none) ⟨k.os, k.tape, k.output, k.size, fun i hi _ => k.block i hi (by simp)⟩ (by cases hv : x.ownBlock <;> simp), h.keeps.then k⟩
theorem RefInv.alloc {w W : World} {T : TypeId} {x : Value} {out : List I3} {a b c : Int} (h : RefInv w T x out a b c W) (o : Obj) : RefInv w T x out a b c (W.alloc o) := h.then ((Keeps.refl W []).alloc o)
theorem RefInv.drew {w W : World} {T : TypeId} {x : Value} {out : List I3} {a b c : Int} (h : RefInv w T x out a b c W) : RefInv w T x out a b c W.drew := h.then (Keeps.refl W []).drew

theorem RefInv.grow {w W W5 : World} {T : TypeId} {x x' : Value} {out : List I3} {y : I3} {a b c : Int} {o : Obj} (h : RefInv w T x out a b c W) (hg : (W.alloc o).drew.grownBy W5 x.ownBlock)
    (hown : W5.ownsRow (w.heap.size + 2) T 3 x' (out.length + 1) (cellsL out ++ cells3 y)) : RefInv w T x' (out ++ [y]) a b c W5 := by
  have hb : ∀ g, x.ownBlock = some g → w.heap.size + 2 ≤ g := fun g hg => (h.row.lt g hg).1
  have l1 := h.cur.lt
  have l2 := h.res.lt
  refine ⟨?_, ?_, by rw [cellsL_snoc, List.length_append]; exact hown, ?_⟩
  · exact (hg.block w.heap.size (by simp; omega) (fun he => by have := hb _ he.symm; omega)).trans (h.cur.alloc o)
  · exact (hg.block (w.heap.size + 1) (by simp; omega) (fun he => by have := hb _ he.symm; omega)).trans (h.res.alloc o)
  · exact Keeps.trans ((h.keeps.alloc o).drew) (Keeps.of_grown (S := x.ownBlock.toList) hg (fun k hk => by simp [hk])) (fun k hk hlt => by
      exfalso
      have hk' : x.ownBlock = some k := by simpa using hk
      have := hb k hk'
      omega)

set_option maxHeartbeats 2000000 in
theorem r_offsets_loop (a0 b0 c0 : Int) (l : List I3) (v : Value) (w : World) (hr : rightB a0 b0 c0 = true) (hv : Reads3 w v l) (hn : l.length ≤ 1000000) (hb : ∀ x ∈ l, x.2.2 ≤ 9223372036854775807) :
    Calls Try.prog 19 #[.agg #[.int .i64 a0, .int .i64 b0, .int .i64 c0], v] w (OffsEnd w 34 (offsL a0 b0 c0 l)) := by
  obtain ⟨A0, n, cp0, rfl, hnl, hcells⟩ := hv.form
  obtain ⟨i0, hi, hz0, hz1, hz2⟩ := info_parts Try.infoSeq
  have HR := Lib.hid hr
  have HN := Lib.hid hnl
  have HC := Lib.hid hcells
  have HB := Lib.hid hb
  have hn' : n ≤ 1000000 := by omega
  clear hr hnl hcells hv hb
  go_enter Try.func19, Try.ntmps19
  go_wp2_with fail
  refine (r_right a0 b0 c0 _).mono ?_
  rw [HR.out]
  rintro e w' ⟨rfl, rfl⟩
  go_wp2_with fail
  have inv0 : RefInv w 34 (.slice none 0 0) [] a0 b0 c0 (((w.alloc (.cells #[.int .i64 a0, .int .i64 b0, .int .i64 c0] 22)).alloc (.cells #[.int .i64 0, .int .i64 0, .int .i64 0] 22)).alloc (.cells #[.int .i64 a0, .int .i64 b0, .int .i64 c0] 22)) :=
    ⟨((Blk.new w _ _).alloc _).alloc _, by have := (Blk.new (w.alloc (.cells #[.int .i64 a0, .int .i64 b0, .int .i64 c0] 22)) #[.int .i64 0, .int .i64 0, .int .i64 0] 22).alloc (.cells #[.int .i64 a0, .int .i64 b0, .int .i64 c0] 22); simpa only [World.size_alloc] using this, World.ownsRow_nil _ _ _ _, (((Keeps.refl w []).alloc _).alloc _).alloc _⟩
  go_loopw [7, 8] (fun x i wr => ∃ (k : Nat) (out : List I3) (a b c : Int), k ≤ n ∧ i = .int .i64 k ∧ Hid (out.length = k) ∧
      Hid (offsL a0 b0 c0 l = Res.pushAll out (offsL a b c (l.drop k))) ∧ Hid (rightB a b c = true) ∧ RefInv w 34 x out a b c wr) (fun _ i _ => n - (intOf i).toNat)
  case atStart => exact ⟨0, [], a0, b0, c0, by omega, rfl, rfl, by rw [List.drop_zero, Res.pushAll_nil]; exact rfl, HR, inv0⟩
  case round =>
    obtain ⟨k, out, a, b, c, hk, rfl, hout, hres, hright, inv⟩ := hrel
    clear inv0
    by_cases hlt : k < n
    · obtain ⟨hncp, b', o, rfl, hbl, hcc⟩ := HC.out (by omega)
      have hkl : k < l.length := by have := HN.out; omega
      obtain ⟨⟨lit, len, v⟩, hx⟩ : ∃ x, l[k]? = some x := ⟨_, List.getElem?_eq_getElem hkl⟩
      have hdrop : l.drop k = (lit, len, v) :: l.drop (k + 1) := by
        rw [List.drop_eq_getElem_cons hkl]
        rw [List.getElem?_eq_getElem hkl] at hx
        rw [Option.some.inj hx]
      have hvb : v ≤ 9223372036854775807 := HB.out _ (List.mem_of_getElem? hx)
      have hg := cellsL_get l k _ hx
      have hci := fun i hi => (inv.keeps.cell (p := ⟨b', o + i, none⟩) hbl (by simp)).trans (hcc i hi)
      have e0 : wr.cell? ⟨b', o + k * 3, none⟩ = some (.int .i64 lit) := by
        rw [show k * 3 = 3 * k by omega, hci (3 * k) (by omega)]; exact hg.1
      have e1 : wr.cell? ⟨b', o + k * 3 + 1, none⟩ = some (.int .i64 len) := by
        rw [show o + k * 3 + 1 = o + (3 * k + 1) by omega, hci (3 * k + 1) (by omega)]; exact hg.2.1
      have e2 : wr.cell? ⟨b', o + k * 3 + 2, none⟩ = some (.int .i64 v) := by
        rw [show o + k * 3 + 2 = o + (3 * k + 2) by omega, hci (3 * k + 2) (by omega)]; exact hg.2.2
      have hbw : b' < wr.heap.size := Nat.lt_of_lt_of_le hbl inv.keeps.size
      have HD := Lib.hid hdrop
      obtain ⟨c0', c1', c2', -⟩ := inv.cur.three
      have hRw := inv.res.lt
      have G1 := Lib.hid fun w => r_offset_any a b c lit v w hvb
      clear hg hci hcc hx hdrop
      have HE : Hid (ofFine a b c lit v = true → ofErr a b c lit v = 0 ∧ ofO a b c lit v = toldO a b c lit v ∧ ofB a b c lit v = updB a b (toldK lit v) ∧ ofC a b c lit v = updC b c (toldK lit v)) := fun hf => by
        have hf' := hf
        simp only [ofFine, Bool.and_eq_true] at hf'
        obtain ⟨h1, h2, h3, h4⟩ := hf'
        exact ⟨by simp [ofErr, h1, h2, h3, h4], by simp [ofO, hf], by simp [ofB, hf], by simp [ofC, hf]⟩
      go_wp2_with fail
      go_cut [9, 10, 11] (fun s9 s10 s11 wx => ∃ g : Nat, s10 = .pointer (some ⟨g, 0, none⟩) ∧ s9 = .int .i64 (ofO a b c lit v) ∧ s11 = .int .i64 (ofErr a b c lit v) ∧ w.heap.size + 1 < g ∧
        Blk wx g #[.int .i64 (ofO a b c lit v), .int .i64 (ofB a b c lit v), .int .i64 (ofC a b c lit v)] 22 ∧ Keeps wr wx [])
      case first =>
        have kr := Keeps.refl wr []
        have hR0 : w.heap.size < wr.heap.size := by omega
        go_region_held3 (fun w' => w'.cell? ⟨w.heap.size, 0, none⟩ = some (.int .i64 a) ∧ w'.cell? ⟨w.heap.size, 1, none⟩ = some (.int .i64 b) ∧ w'.cell? ⟨w.heap.size, 2, none⟩ = some (.int .i64 c) ∧
            w'.cell? ⟨b', o + k * 3, none⟩ = some (.int .i64 lit) ∧ w'.cell? ⟨b', o + k * 3 + 2, none⟩ = some (.int .i64 v) ∧ w.heap.size + 1 < w'.heap.size ∧ b' < w'.heap.size ∧ Keeps wr w' [])
          (first | exact ⟨‹_›, ‹_›, ‹_›, ‹_›, ‹_›, ‹_›, ‹_›, ‹_›⟩ | exact ⟨c0', c1', c2', e0, e2, hRw, hbw, kr.drew⟩ | (refine ⟨?_, ?_, ?_, ?_, ?_, ?_, ?_, ?_⟩ <;> first | (simp [*, go_sem]; done) | (simp; omega) | (simp only [World.size_alloc, World.size_drew, World.size_setCell]; omega) | (repeat' first | assumption | refine Keeps.drew ?_ | refine Keeps.alloc ?_ _ | refine Keeps.setCell' (.inl (by dsimp only; omega)) ?_)) | fail)
          (first | (go_at_call 13; refine (G1.out _).mono ?_; rintro e w' ⟨rfl, kk⟩; obtain ⟨i0, i1, i2, i3, i4, i5, i6, i7⟩ := ‹_ ∧ _ ∧ _ ∧ _ ∧ _ ∧ _ ∧ _ ∧ Keeps wr _ []›; have q0 := (kk.cell (p := ⟨w.heap.size, 0, none⟩) (by dsimp only; omega) (by simp)).trans i0; have q1 := (kk.cell (p := ⟨w.heap.size, 1, none⟩) (by dsimp only; omega) (by simp)).trans i1; have q2 := (kk.cell (p := ⟨w.heap.size, 2, none⟩) (by dsimp only; omega) (by simp)).trans i2; have q3 := (kk.cell (p := ⟨b', o + k * 3, none⟩) i6 (by simp)).trans i3; have q4 := (kk.cell (p := ⟨b', o + k * 3 + 2, none⟩) i6 (by simp)).trans i4; have q5 := Nat.lt_of_lt_of_le i5 kk.size; have q6 := Nat.lt_of_lt_of_le i6 kk.size; have q7 := Keeps.then i7 kk; have q8 : w.heap.size < w'.heap.size := (by omega); try (have zz := Blk.keeps (b := wr.heap.size) (cs := #[.int .i64 0, .int .i64 0, .int .i64 0]) (T := 22) (Blk.drew (Blk.new wr _ _)) kk List.not_mem_nil; obtain ⟨z0, z1, z2, z3, z4, z5⟩ := zz.three; have z6 := zz.lt)))
        all_goals
          go_wp2_with fail
          go_meet
          first
            | exact ⟨_, rfl, rfl, rfl, by omega, Blk.new _ _ _, q7.alloc _⟩
            | exact ⟨_, rfl, rfl, rfl, by omega, by simpa using ((zz.set 0 (.int .i64 (ofO a b c lit v))).set 1 (.int .i64 (ofB a b c lit v))).set 2 (.int .i64 (ofC a b c lit v)), by repeat' first | with_reducible exact q7 | with_reducible refine Keeps.setCell' (.inl (Nat.le_refl _)) ?_⟩
      case rest =>
        obtain ⟨g, rfl, rfl, rfl, hg, bg, kx⟩ := hcut
        have inv1 := inv.then kx
        have f0 := (kx.cell (p := ⟨b', o + k * 3, none⟩) hbw (by simp)).trans e0
        have f1 := (kx.cell (p := ⟨b', o + k * 3 + 1, none⟩) hbw (by simp)).trans e1
        have hbx : b' < wc.heap.size := Nat.lt_of_lt_of_le hbw kx.size
        clear c0' c1' c2' e0 e1 e2 hRw hbw kx inv
        obtain ⟨c0', c1', c2', c3', c4', c5'⟩ := inv1.cur.three
        obtain ⟨g0, g1, g2, -⟩ := bg.three
        have hgx := bg.lt
        have hRw : w.heap.size + 1 < wc.heap.size := by omega
        cases hF : ofFine a b c lit v with
        | false =>
          have hne : (ofErr a b c lit v != 0) = true := by
            simp only [ofErr]
            split
            · rename_i h1
              simp only [Bool.and_eq_true, decide_eq_true_eq] at h1
              have : (decide (1 ≤ v) && inW (toldO a b c lit v)) = false := by simpa [ofFine, h1.1, h1.2] using hF
              simp [this]
            · simp
          have hend : Hid (offsL a0 b0 c0 l = .bad (ofErr a b c lit v)) := by
            show _ = _
            rw [hres.out, HD.out]; simp [offsL, hF, Res.pushAll]
          obtain ⟨q0, q1, q2, q3, q4, q5⟩ := inv1.res.three
          clear hF HE
          go_wp2_with fail
          refine bodyPost_ret (v := .tuple #[.slice none 0 0, .agg #[.int .i64 0, .int .i64 0, .int .i64 0], .int .i64 (ofErr a b c lit v)]) (by simp only [results, Try.results19]; go_simp) rfl ?_
          rw [hend.out]
          refine ⟨rfl, ?_⟩
          repeat' first | with_reducible exact inv1.keeps | with_reducible refine Keeps.drew ?_ | with_reducible refine Keeps.setCell' (.inl (by dsimp only; omega)) ?_
        | true =>
          obtain ⟨x0, x1, x2, x3⟩ := HE.out hF
          have he0 : (ofErr a b c lit v != 0) = false := by rw [x0]; rfl
          have hres4 : Hid (offsL a0 b0 c0 l = Res.pushAll (out ++ [(lit, len, ofO a b c lit v)]) (offsL (ofO a b c lit v) (ofB a b c lit v) (ofC a b c lit v) (l.drop (k + 1)))) := by
            show _ = _
            rw [hres.out, HD.out, x1, x2, x3, ← Res.pushAll_push]; simp [offsL, hF]
          have hin : inW (toldO a b c lit v) = true := by
            simp only [ofFine, Bool.and_eq_true] at hF
            exact hF.2.2.2
          have hright4 : Hid (rightB (ofO a b c lit v) (ofB a b c lit v) (ofC a b c lit v) = true) := by
            show _ = _
            rw [x1, x2, x3]; exact upd_right hright.out hin
          clear x0 x1 x2 x3 HE hF hin G1 hres hright
          go_wp2_with fail
          have inv2 : RefInv w 34 u7 out (ofO a b c lit v) (ofB a b c lit v) (ofC a b c lit v) (((wc.setCell ⟨w.heap.size, 0, none⟩ (.int .i64 (ofO a b c lit v))).setCell ⟨w.heap.size, 1, none⟩ (.int .i64 (ofB a b c lit v))).setCell ⟨w.heap.size, 2, none⟩ (.int .i64 (ofC a b c lit v))) :=
            ⟨by simpa using ((inv1.cur.set 0 (.int .i64 (ofO a b c lit v))).set 1 (.int .i64 (ofB a b c lit v))).set 2 (.int .i64 (ofC a b c lit v)),
              ((inv1.res.setOther (by simp) _).setOther (by simp) _).setOther (by simp) _,
              owns_setCell (owns_setCell (owns_setCell inv1.row (fun he => by have := (inv1.row.lt _ he).1; simp at this; omega) _) (fun he => by have := (inv1.row.lt _ he).1; simp at this; omega) _) (fun he => by have := (inv1.row.lt _ he).1; simp at this; omega) _,
              ((inv1.keeps.setCell (.inl (Nat.le_refl _)) _).setCell (.inl (Nat.le_refl _)) _).setCell (.inl (Nat.le_refl _)) _⟩
          have h0 : ∀ j, (((wc.setCell ⟨w.heap.size, 0, none⟩ (.int .i64 (ofO a b c lit v))).setCell ⟨w.heap.size, 1, none⟩ (.int .i64 (ofB a b c lit v))).setCell ⟨w.heap.size, 2, none⟩ (.int .i64 (ofC a b c lit v))).cell? ⟨b', j, none⟩ = wc.cell? ⟨b', j, none⟩ := fun j => by
            rw [World.cell?_setCell_other _ _ _ _ (fun he => by have := congrArg Addr.block he; dsimp only at this; omega), World.cell?_setCell_other _ _ _ _ (fun he => by have := congrArg Addr.block he; dsimp only at this; omega), World.cell?_setCell_other _ _ _ _ (fun he => by have := congrArg Addr.block he; dsimp only at this; omega)]
          have f0' := (h0 _).trans f0
          have f1' := (h0 _).trans f1
          clear h0 f0 f1 c0' c1' c2' c3' c4' c5' g0 g1 g2 hgx bg
          generalize ((wc.setCell ⟨w.heap.size, 0, none⟩ (.int .i64 (ofO a b c lit v))).setCell ⟨w.heap.size, 1, none⟩ (.int .i64 (ofB a b c lit v))).setCell ⟨w.heap.size, 2, none⟩ (.int .i64 (ofC a b c lit v)) = wq at *
          have hRq := inv2.res.lt
          generalize ofO a b c lit v = O at *
          generalize ofB a b c lit v = B' at *
          generalize ofC a b c lit v = C' at *
          have hrow : wq.ownsRow (w.heap.size + 2) 34 3 u7 k (cellsL out) := by
            have := inv2.row
            rw [hout.out] at this
            exact this
          have hfar : some b' ≠ u7.ownBlock := fun he => by have := (hrow.lt b' he.symm).1; omega
          have hbq : b' < wq.heap.size := by omega
          have hk0 : (0 : Int) ≤ (k : Int) := Int.natCast_nonneg _
          have hk1 : (k : Int) < (n : Int) := by omega
          go_region_held3 (fun w' => w'.cell? ⟨b', o + k * 3, none⟩ = some (.int .i64 lit) ∧ w'.cell? ⟨b', o + k * 3 + 1, none⟩ = some (.int .i64 len))
            (first
              | go_keep
              | (go_split_ands
                 refine ⟨?_, ?_⟩
                 · (rw [hgrow.cell_far _ (by simp; omega) hfar]; assumption)
                 · (rw [hgrow.cell_far _ (by simp; omega) hfar]; assumption))
              | fail)
            ((refine step_append_lies _ (by rfl) _ _ _ (by rfl) (w.heap.size + 2) 34 i0 _ 3 24 Try.underlying38 hi hz0 hz1 hz2 rfl (by omega) u7 k (cellsL out) (by rfl) ((hrow.alloc _).drew) ⟨wq.heap.size, 0, none⟩ 1 1 [.int .i64 lit, .int .i64 len, .int .i64 O] (by rfl) (by rfl) (World.news_of_block (cs := #[.int .i64 lit, .int .i64 len, .int .i64 O]) (t := 34) (fr := (0, 0)) (heap_alloc_new wq _)) (by simp [Value.oneCell']) (by omega) (by unfold maxLen; omega) (by omega) (by simp; omega) (wq.heap.size + 1) (by simp) ?_; intro gg cap w5 hown5 hgrow hat hlt5))
          go_wp2_with fail
          have hl : out.length = k := hout.out
          exact ⟨⟨k + 1, out ++ [(lit, len, O)], O, B', C', by omega, by go_num, by show _ = _; simp [hl], hres4, hright4, inv2.grow hgrow (by rw [hl]; exact hown5)⟩, by simp [intOf]; omega⟩
    · have : k = n := by omega
      subst this
      obtain ⟨c0', c1', c2', -⟩ := inv.cur.three
      obtain ⟨q0, q1, q2, q3, q4, q5⟩ := inv.res.three
      have hRw := inv.res.lt
      go_wp2_with fail
      go_region
      go_wp2_with fail
      refine bodyPost_ret (v := .tuple #[u7, .agg #[.int .i64 a, .int .i64 b, .int .i64 c], .int .i64 0]) (by simp only [results, Try.results19]; go_simp) rfl ?_
      have hd : l.drop k = [] := by have := HN.out; exact List.drop_eq_nil_of_le (by omega)
      have hq := hres.out
      rw [hd] at hq
      rw [hq]
      simp only [offsL, Res.pushAll, List.append_nil]
      refine ⟨_, rfl, ?_, ?_⟩
      · refine owns_base ?_ (show w.heap.size ≤ w.heap.size + 2 by omega)
        repeat' first | with_reducible exact inv.row | with_reducible refine owns_drew ?_ | with_reducible refine owns_setCell ?_ (fun he => by have := (inv.row.lt _ he).1; dsimp only at this; omega) _
      · repeat' first | with_reducible exact inv.keeps | with_reducible refine Keeps.drew ?_ | with_reducible refine Keeps.setCell' (.inl (by dsimp only; omega)) ?_

theorem r_offsets_any (a b c : Int) (l : List I3) (v : Value) (w : World) (hv : Reads3 w v l) (hn : l.length ≤ 1000000) (hb : ∀ x ∈ l, x.2.2 ≤ 9223372036854775807) :
    Calls Try.prog 19 #[.agg #[.int .i64 a, .int .i64 b, .int .i64 c], v] w (OffsEnd w 34 (offsAll a b c l)) := by
  cases hr : rightB a b c with
  | true =>
    have := r_offsets_loop a b c l v w hr hv hn hb
    simpa [offsAll, hr] using this
  | false =>
    have hE : offsAll a b c l = .bad 2 := by simp [offsAll, hr]
    rw [hE]
    have HR := Lib.hid hr
    clear hr hE hb hn hv
    go_enter Try.func19, Try.ntmps19
    go_wp2_with fail
    refine (r_right a b c _).mono ?_
    rw [HR.out]
    rintro e w' ⟨rfl, rfl⟩
    go_wp2_with fail
    refine bodyPost_ret (v := .tuple #[.slice none 0 0, .agg #[.int .i64 0, .int .i64 0, .int .i64 0], .int .i64 2]) (by simp only [results, Try.results19]; go_simp) rfl ⟨rfl, ?_⟩
    repeat' first | with_reducible exact Keeps.refl _ _ | with_reducible refine Keeps.drew ?_ | with_reducible refine Keeps.alloc ?_ _ | with_reducible refine Keeps.setCell' (.inl (by simp)) ?_

end Go.Proofs.Ytldbiohahkcpnaa
