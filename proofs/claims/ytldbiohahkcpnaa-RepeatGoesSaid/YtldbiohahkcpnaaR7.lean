/-
  Walks over the reference of package repeat: All.
-/
import Derived.Test.YtldbiohahkcpnaaR5
import Derived.Test.YtldbiohahkcpnaaRT
namespace Go.Proofs.Ytldbiohahkcpnaa
set_option linter.unusedVariables false
set_option linter.unusedSimpArgs false
open Go.RowKit

theorem Try.infoThree : (Try.prog.info? 22).map (fun i => (i.zero, i.size, i.bytes)) = some (some (.agg #[.int .i64 0, .int .i64 0, .int .i64 0]), 3, 24) := by kernel_rfl

/-- What the loop of All keeps. -/
structure AllInv (w : World) (x : Value) (out : List I3) (a b c : Int) (W : World) : Prop where
  cur : Blk W w.heap.size #[.int .i64 a, .int .i64 b, .int .i64 c] 22
  row : W.ownsRow (w.heap.size + 1) 22 3 x out.length (cellsL out)
  keeps : Keeps w W []
theorem AllInv.then {w W W' : World} {x : Value} {out : List I3} {a b c : Int} (h : AllInv w x out a b c W) (k : Keeps W W' []) : AllInv w x out a b c W' :=
  ⟨h.cur.keeps k (by simp), owns_keeps h.row k, h.keeps.then k⟩

theorem AllInv.grow {w W W5 : World} {x x' : Value} {out : List I3} {y : I3} {a b c : Int} {o : Obj} (h : AllInv w x out a b c W) (hg : (W.alloc o).grownBy W5 x.ownBlock)
    (hown : W5.ownsRow (w.heap.size + 1) 22 3 x' (out.length + 1) (cellsL out ++ cells3 y)) : AllInv w x' (out ++ [y]) a b c W5 := by
  have hb : ∀ g, x.ownBlock = some g → w.heap.size + 1 ≤ g := fun g hg => (h.row.lt g hg).1
  have l1 := h.cur.lt
  refine ⟨?_, by rw [cellsL_snoc, List.length_append]; exact hown, ?_⟩
  · exact (hg.block w.heap.size (by simp; omega) (fun he => by have := hb _ he.symm; omega)).trans (h.cur.alloc o)
  · exact Keeps.trans (h.keeps.alloc o) (Keeps.of_grown (S := x.ownBlock.toList) hg (fun k hk => by simp [hk])) (fun k hk hlt => by
      exfalso
      have hk' : x.ownBlock = some k := by simpa using hk
      have := hb k hk'
      omega)

def AllEnd (w : World) (S : List I3) (e : Ending) (w' : World) : Prop := ∃ v, e = .returned v ∧ w'.ownsRow w.heap.size 22 3 v S.length (cellsL S) ∧ Keeps w w' []

set_option maxHeartbeats 2000000 in
theorem r_all (a0 b0 c0 : Int) (l : List I3) (v : Value) (w : World) (hv : Reads3 w v l) (hn : l.length ≤ 1000000) (hb : ∀ x ∈ l, x.2.2 ≤ 9223372036854775807) :
    Calls Try.prog 24 #[.agg #[.int .i64 a0, .int .i64 b0, .int .i64 c0], v] w (AllEnd w (statesL a0 b0 c0 l)) := by
  obtain ⟨A0, n, cp0, rfl, hnl, hcells⟩ := hv.form
  obtain ⟨i0, hi, hz0, hz1, hz2⟩ := info_parts Try.infoThree
  have HN := Lib.hid hnl
  have HC := Lib.hid hcells
  have HB := Lib.hid hb
  have hn' : n ≤ 1000000 := by omega
  clear hnl hcells hv hb
  go_enter Try.func24, Try.ntmps24
  go_wp2_with fail
  have inv0 : AllInv w (.slice none 0 0) [] a0 b0 c0 (w.alloc (.cells #[.int .i64 a0, .int .i64 b0, .int .i64 c0] 22)) :=
    ⟨Blk.new w _ _, World.ownsRow_nil _ _ _ _, (Keeps.refl w []).alloc _⟩
  go_loopw [5, 6] (fun x i wr => ∃ (k : Nat) (out : List I3) (a b c : Int), k ≤ n ∧ i = .int .i64 k ∧ Hid (out.length = k) ∧
      Hid (statesL a0 b0 c0 l = out ++ statesL a b c (l.drop k)) ∧ AllInv w x out a b c wr) (fun _ i _ => n - (intOf i).toNat)
  case atStart => exact ⟨0, [], a0, b0, c0, by omega, rfl, rfl, by rw [List.drop_zero]; exact rfl, inv0⟩
  case round =>
    obtain ⟨k, out, a, b, c, hk, rfl, hout, hres, inv⟩ := hrel
    clear inv0
    by_cases hlt : k < n
    · obtain ⟨hncp, b', o, rfl, hbl, hcc⟩ := HC.out (by omega)
      have hkl : k < l.length := by have := HN.out; omega
      obtain ⟨⟨lit, len, v⟩, hx⟩ : ∃ x, l[k]? = some x := ⟨_, List.getElem?_eq_getElem hkl⟩
      have hdrop : l.drop k = (lit, len, v) :: l.drop (k + 1) := by
        rw [List.drop_eq_getElem_cons hkl]
        rw [List.getElem?_eq_getElem hkl] at hx
        rw [Option.some.inj hx]
      have hvb : v ≤ 9223372036854775807 := HB.out _ (List.mem_of_getElem? hx)
      have hg := cellsL_get l k _ hx
      have hci := fun i hi => (inv.keeps.cell (p := ⟨b', o + i, none⟩) hbl (by simp)).trans (hcc i hi)
      have e0 : wr.cell? ⟨b', o + k * 3, none⟩ = some (.int .i64 lit) := by
        rw [show k * 3 = 3 * k by omega, hci (3 * k) (by omega)]; exact hg.1
      have e1 : wr.cell? ⟨b', o + k * 3 + 1, none⟩ = some (.int .i64 len) := by
        rw [show o + k * 3 + 1 = o + (3 * k + 1) by omega, hci (3 * k + 1) (by omega)]; exact hg.2.1
      have e2 : wr.cell? ⟨b', o + k * 3 + 2, none⟩ = some (.int .i64 v) := by
        rw [show o + k * 3 + 2 = o + (3 * k + 2) by omega, hci (3 * k + 2) (by omega)]; exact hg.2.2
      have hbw : b' < wr.heap.size := Nat.lt_of_lt_of_le hbl inv.keeps.size
      have HD := Lib.hid hdrop
      obtain ⟨c0', c1', c2', -⟩ := inv.cur.three
      have hRw := inv.cur.lt
      have G1 := Lib.hid fun w => r_offset_any a b c lit v w hvb
      clear hg hci hcc hx hdrop
      have HE : Hid (ofFine a b c lit v = true → ofErr a b c lit v = 0 ∧ ofO a b c lit v = toldO a b c lit v ∧ ofB a b c lit v = updB a b (toldK lit v) ∧ ofC a b c lit v = updC b c (toldK lit v)) := fun hf => by
        have hf' := hf
        simp only [ofFine, Bool.and_eq_true] at hf'
        obtain ⟨h1, h2, h3, h4⟩ := hf'
        exact ⟨by simp [ofErr, h1, h2, h3, h4], by simp [ofO, hf], by simp [ofB, hf], by simp [ofC, hf]⟩
      go_wp2_with fail
      go_cut [7, 8, 9] (fun s9 s10 s11 wx => ∃ g : Nat, s10 = .pointer (some ⟨g, 0, none⟩) ∧ s9 = .int .i64 (ofO a b c lit v) ∧ s11 = .int .i64 (ofErr a b c lit v) ∧ w.heap.size < g ∧
        Blk wx g #[.int .i64 (ofO a b c lit v), .int .i64 (ofB a b c lit v), .int .i64 (ofC a b c lit v)] 22 ∧ Keeps wr wx [])
      case first =>
        have kr := Keeps.refl wr []
        have hR0 : w.heap.size < wr.heap.size := by omega
        go_region_held3 (fun w' => w'.cell? ⟨w.heap.size, 0, none⟩ = some (.int .i64 a) ∧ w'.cell? ⟨w.heap.size, 1, none⟩ = some (.int .i64 b) ∧ w'.cell? ⟨w.heap.size, 2, none⟩ = some (.int .i64 c) ∧
            w'.cell? ⟨b', o + k * 3, none⟩ = some (.int .i64 lit) ∧ w'.cell? ⟨b', o + k * 3 + 2, none⟩ = some (.int .i64 v) ∧ w.heap.size < w'.heap.size ∧ b' < w'.heap.size ∧ Keeps wr w' [])
          (first | exact ⟨‹_›, ‹_›, ‹_›, ‹_›, ‹_›, ‹_›, ‹_›, ‹_›⟩ | exact ⟨c0', c1', c2', e0, e2, hRw, hbw, kr.drew⟩ | (refine ⟨?_, ?_, ?_, ?_, ?_, ?_, ?_, ?_⟩ <;> first | (simp [*, go_sem]; done) | (simp; omega) | (simp only [World.size_alloc, World.size_drew, World.size_setCell]; omega) | (repeat' first | assumption | refine Keeps.drew ?_ | refine Keeps.alloc ?_ _ | refine Keeps.setCell' (.inl (by dsimp only; omega)) ?_)) | fail)
          (first | (go_at_call 13; refine (G1.out _).mono ?_; rintro e w' ⟨rfl, kk⟩; obtain ⟨i0, i1, i2, i3, i4, i5, i6, i7⟩ := ‹_ ∧ _ ∧ _ ∧ _ ∧ _ ∧ _ ∧ _ ∧ Keeps wr _ []›; have q0 := (kk.cell (p := ⟨w.heap.size, 0, none⟩) (by dsimp only; omega) (by simp)).trans i0; have q1 := (kk.cell (p := ⟨w.heap.size, 1, none⟩) (by dsimp only; omega) (by simp)).trans i1; have q2 := (kk.cell (p := ⟨w.heap.size, 2, none⟩) (by dsimp only; omega) (by simp)).trans i2; have q3 := (kk.cell (p := ⟨b', o + k * 3, none⟩) i6 (by simp)).trans i3; have q4 := (kk.cell (p := ⟨b', o + k * 3 + 2, none⟩) i6 (by simp)).trans i4; have q5 := Nat.lt_of_lt_of_le i5 kk.size; have q6 := Nat.lt_of_lt_of_le i6 kk.size; have q7 := Keeps.then i7 kk; have q8 : w.heap.size < w'.heap.size := (by omega); try (have zz := Blk.keeps (b := wr.heap.size) (cs := #[.int .i64 0, .int .i64 0, .int .i64 0]) (T := 22) (Blk.drew (Blk.new wr _ _)) kk List.not_mem_nil; obtain ⟨z0, z1, z2, z3, z4, z5⟩ := zz.three; have z6 := zz.lt)))
        all_goals
          go_wp2_with fail
          go_meet
          first
            | exact ⟨_, rfl, rfl, rfl, by omega, Blk.new _ _ _, q7.alloc _⟩
            | exact ⟨_, rfl, rfl, rfl, by omega, by simpa using ((zz.set 0 (.int .i64 (ofO a b c lit v))).set 1 (.int .i64 (ofB a b c lit v))).set 2 (.int .i64 (ofC a b c lit v)), by repeat' first | with_reducible exact q7 | with_reducible refine Keeps.setCell' (.inl (Nat.le_refl _)) ?_⟩
      case rest =>
        obtain ⟨g, rfl, rfl, rfl, hg, bg, kx⟩ := hcut
        have inv1 := inv.then kx
        clear c0' c1' c2' e0 e1 e2 hRw hbw kx inv
        obtain ⟨c0', c1', c2', c3', c4', c5'⟩ := inv1.cur.three
        obtain ⟨g0, g1, g2, -⟩ := bg.three
        have hgx := bg.lt
        have hRw : w.heap.size < wc.heap.size := by omega
        cases hF : ofFine a b c lit v with
        | false =>
          have hne : (ofErr a b c lit v != 0) = true := by have := of_err_ne hF; simpa using this
          have hend : Hid (statesL a0 b0 c0 l = out) := by
            show _ = _
            rw [hres.out, HD.out]; simp [statesL, hF]
          clear hF HE
          go_wp2_with fail
          go_ret
          rw [hend.out]
          exact ⟨_, rfl, owns_base inv1.row (Nat.le_succ _), inv1.keeps⟩
        | true =>
          obtain ⟨x0, x1, x2, x3⟩ := HE.out hF
          have he0 : (ofErr a b c lit v != 0) = false := by rw [x0]; rfl
          have hres4 : Hid (statesL a0 b0 c0 l = (out ++ [(ofO a b c lit v, ofB a b c lit v, ofC a b c lit v)]) ++ statesL (ofO a b c lit v) (ofB a b c lit v) (ofC a b c lit v) (l.drop (k + 1))) := by
            show _ = _
            rw [hres.out, HD.out, x1, x2, x3]; simp [statesL, hF]
          clear x0 x1 x2 x3 HE hF G1 hres
          have inv2 : AllInv w u5 out (ofO a b c lit v) (ofB a b c lit v) (ofC a b c lit v) (((wc.setCell ⟨w.heap.size, 0, none⟩ (.int .i64 (ofO a b c lit v))).setCell ⟨w.heap.size, 1, none⟩ (.int .i64 (ofB a b c lit v))).setCell ⟨w.heap.size, 2, none⟩ (.int .i64 (ofC a b c lit v))) :=
            ⟨by simpa using ((inv1.cur.set 0 (.int .i64 (ofO a b c lit v))).set 1 (.int .i64 (ofB a b c lit v))).set 2 (.int .i64 (ofC a b c lit v)),
              owns_setCell (owns_setCell (owns_setCell inv1.row (fun he => by have := (inv1.row.lt _ he).1; simp at this; omega) _) (fun he => by have := (inv1.row.lt _ he).1; simp at this; omega) _) (fun he => by have := (inv1.row.lt _ he).1; simp at this; omega) _,
              ((inv1.keeps.setCell (.inl (Nat.le_refl _)) _).setCell (.inl (Nat.le_refl _)) _).setCell (.inl (Nat.le_refl _)) _⟩
          have hrow := inv2.row
          rw [hout.out] at hrow
          generalize ofO a b c lit v = O at *
          generalize ofB a b c lit v = B' at *
          generalize ofC a b c lit v = C' at *
          have hk1 : (k : Int) < (n : Int) := by omega
          have hsq : (((wc.setCell ⟨w.heap.size, 0, none⟩ (.int .i64 O)).setCell ⟨w.heap.size, 1, none⟩ (.int .i64 B')).setCell ⟨w.heap.size, 2, none⟩ (.int .i64 C')).heap.size = wc.heap.size := by simp
          have HQ := Lib.hid hsq
          clear hsq
          go_wp2_with (first | (at_builtin; generalize ((wc.setCell ⟨w.heap.size, 0, none⟩ (.int .i64 O)).setCell ⟨w.heap.size, 1, none⟩ (.int .i64 B')).setCell ⟨w.heap.size, 2, none⟩ (.int .i64 C') = wq at *; refine (wpList_append_own _ rfl (.tmp 36) (.tmp 38) 51 rfl (w.heap.size + 1) 22 i0 (.agg #[.int .i64 0, .int .i64 0, .int .i64 0]) 3 24 Try.underlying51 hi hz0 hz1 hz2 rfl (by decide) u5 k (cellsL out) rfl (hrow.alloc _) ⟨wc.heap.size, 0, none⟩ 1 1 [.int .i64 O, .int .i64 B', .int .i64 C'] rfl rfl (by rw [← HQ.out]; exact three_new _ _ _ _ _) (by simp [Value.oneCell']) (by unfold maxLen; omega) (by omega) (by have := hrow.1; have := inv2.cur.lt; simp; omega) ?_); intro v5 w5 hown5 hg5 _))
          have hl : out.length = k := hout.out
          exact ⟨⟨k + 1, out ++ [(O, B', C')], O, B', C', by omega, by go_num, by show _ = _; simp [hl], hres4, inv2.grow hg5 (by rw [hl]; exact hown5)⟩, by simp [intOf]; omega⟩
    · have : k = n := by omega
      subst this
      go_wp2_with fail
      go_ret
      have hd : l.drop k = [] := by have := HN.out; exact List.drop_eq_nil_of_le (by omega)
      have hq := hres.out
      rw [hd] at hq
      simp only [statesL, List.append_nil] at hq
      rw [hq]
      exact ⟨_, rfl, owns_base inv.row (Nat.le_succ _), inv.keeps⟩

end Go.Proofs.Ytldbiohahkcpnaa
