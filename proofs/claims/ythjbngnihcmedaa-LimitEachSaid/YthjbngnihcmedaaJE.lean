/-
  Walks over package limit: two sorted lists of packages merged.
-/
import Derived.Test.YthjbngnihcmedaaJD
import Derived.ArgAppend
import Derived.Deep.QuietTactic
import Derived.BigQuiet
namespace Go.Proofs.Ythjbngnihcmedaa
set_option linter.unusedVariables false
set_option linter.unusedSimpArgs false
set_option linter.unusedSectionVars false
open Go.RowKit


/-- The length of a slice value. -/
def lenOfV : Value → Nat
  | .slice _ n _ => n
  | _ => 0

theorem holdK {w w' : World} {a b : Addr} {x y : Value} (h1 : w.cell? a = some x) (h2 : w.cell? b = some y) (l1 : a.block < w.heap.size) (l2 : b.block < w.heap.size) (kk : Keeps w w' []) : w'.cell? a = some x ∧ w'.cell? b = some y ∧ Keeps w w' [] :=
  ⟨(kk.cell l1 (by simp)).trans h1, (kk.cell l2 (by simp)).trans h2, kk⟩
variable [SH : Shun]
theorem grown_low {W w w' : World} {v : Value} {base : Nat} {e : TypeId} {O : List Pack} (hown : OwnK w base e v O) (hg : w.grownBy w' v.ownBlock) (kW : Keeps W w []) (hb : W.heap.size ≤ base) : Keeps W w' [] := by
  obtain ⟨xs, h1, -⟩ := hown
  exact kW.trans (Keeps.of_grown (S := v.ownBlock.toList) hg (fun j hj => by simpa using hj)) (fun x hx hlt => by have := (h1.lt x (by simpa using hx)).1; omega)

set_option maxRecDepth 100000 in
set_option maxHeartbeats 8000000 in
theorem merged_any (va vb : Value) (A B : List Pack) (w : World) (ha : RdK w va A) (hb : RdK w vb B) (hl : A.length + B.length ≤ 100000) :
    Calls Try.prog 38 #[va, vb] w (PackEnd w (mergedP A B)) := by
  obtain ⟨aa, na, ca, rfl, hna, -⟩ := ha.form
  obtain ⟨ab, nb, cb, rfl, hnb, -⟩ := hb.form
  obtain ⟨i0, hi, hz0, hz1, hz2⟩ := info_parts Try.infoPack
  obtain ⟨M, hM⟩ : ∃ M, M = mergedP A B := ⟨_, rfl⟩
  have HML : Hid (M.length ≤ 100000) := by show _ ≤ _; rw [hM, mergedP_len]; exact hl
  have st : Hid (∃ A' B' O, RdK w (.slice aa na ca) A' ∧ RdK w (.slice ab nb cb) B' ∧ OwnK w w.heap.size 68 (.slice none 0 0) O ∧ O ++ mergedP A' B' = M ∧ A'.length = na ∧ B'.length = nb) := ⟨A, B, [], ha, hb, OwnK.nil, hM.symm, hna.symm, hnb.symm⟩
  have hl' : na + nb ≤ 100000 := by omega
  rw [← hM]
  clear ha hb hna hnb hM hl
  go_enter Try.func38, Try.ntmps38
  go_wp2_with fail
  go_loopw [0, 1, 5] (fun s0 s1 s5 wr => ∃ (aa ab ao : Option Addr) (na nb no ca cb co : Nat), s0 = .slice aa na ca ∧ s1 = .slice ab nb cb ∧ s5 = .slice ao no co ∧ na + nb ≤ 100000 ∧ no ≤ 100000 ∧
    Hid (∃ A' B' O, RdK w (.slice aa na ca) A' ∧ RdK w (.slice ab nb cb) B' ∧ OwnK wr w.heap.size 68 (.slice ao no co) O ∧ O ++ mergedP A' B' = M ∧ A'.length = na ∧ B'.length = nb ∧ O.length = no) ∧ Keeps w wr []) (fun s0 s1 _ _ => lenOfV s0 + lenOfV s1)
  case atStart => exact ⟨aa, ab, none, na, nb, 0, ca, cb, 0, rfl, rfl, rfl, hl', by omega, by obtain ⟨A', B', O, h1, h2, h3, h4, h5, h6⟩ := st.out; obtain ⟨ad, c, h⟩ := h3.form; injection h with e1 e2 e3; exact ⟨A', B', O, h1, h2, h3, h4, h5, h6, e2.symm⟩, Keeps.refl _ _⟩
  case round =>
    obtain ⟨aa, ab, ao, na, nb, no, ca, cb, co, rfl, rfl, rfl, hl', hno, hst, kr⟩ := hrel
    clear st
    obtain ⟨A', B', O, rA, rB, oO, hM, hlA, hlB, hlO⟩ := hst.out
    have RA := Lib.hid rA
    have RB := Lib.hid rB
    have OO := Lib.hid oO
    have HM := Lib.hid hM
    have HLA := Lib.hid hlA
    have HLB := Lib.hid hlB
    have HLO := Lib.hid hlO
    have hno1 : no + (na + nb) ≤ 100000 := by have h1 := congrArg List.length hM; rw [List.length_append, mergedP_len] at h1; have := HML.out; omega
    clear rA rB oO hM hlA hlB hlO hst
    have hna0 : (0 : Int) ≤ (na : Int) := Int.natCast_nonneg _
    have hnb0 : (0 : Int) ≤ (nb : Int) := Int.natCast_nonneg _
    have hkz := kr.size
    cases B' with
    | nil =>
      obtain rfl : nb = 0 := by have := HLB.out; simpa using this.symm
      cases A' with
      | nil =>
        obtain rfl : na = 0 := by have := HLA.out; simpa using this.symm
        go_wp2_with fail
        go_ret
        have h := HM.out
        rw [mergedP_nil, List.append_nil] at h
        exact ⟨_, rfl, by rw [← h]; exact OO.out, kr⟩
      | cons p A' =>
        have hna1 : 0 < na := by have := HLA.out; simp at this; omega
        have HM2 : Hid ((O ++ [p]) ++ mergedP A' [] = M) := by show _ = _; rw [← HM.out]; simp [mergedP_nil]
        obtain ⟨ba, oa, va, rfl, hba, pa1, pa2, pa3⟩ := RA.out.at (i := 0) (p := p) rfl
        simp only [Nat.zero_mul, Nat.add_zero] at pa1 pa2
        have hca := RA.out.cap
        have PA3 := Lib.hid pa3
        clear pa3
        go_wp2_with fail
        go_quiet (fail)
        have kW : Keeps wr (wr.drewN nq) [] := (Keeps.refl wr []).drewN nq
        generalize (wr.drewN nq) = W0 at *
        obtain ⟨a', c', hpost0, rpost⟩ := slice_postK (P := Try.prog) Try.underlying61 hi hz1 RA.out (m := 1) hna1
        have hpost : ∀ w', (Instr.slice 61 (.slice (some ⟨ba, oa, none⟩) na ca) (some (.int .i64 1)) none none).run Try.prog w' = .ok (.slice a' (na - 1) c') w' := fun w' => hpost0 w'
        have RPOST := Lib.hid rpost
        clear rpost hpost0
        have kwW := kr.then kW
        have hbW : ba < W0.heap.size := Nat.lt_of_lt_of_le hba kwW.size
        have d1 := (kwW.cell (p := ⟨ba, oa, none⟩) hba (by simp)).trans pa1
        have d2 := (kwW.cell (p := ⟨ba, oa + 1, none⟩) hba (by simp)).trans pa2
        go_wp2_with fail
        refine wp_region_held_drew (S := (fun w' => w'.cell? ⟨ba, oa, none⟩ = some (.int .i64 p.1) ∧ w'.cell? ⟨ba, oa + 1, none⟩ = some va ∧ Keeps w w' [])) (by kernel_rfl) (holdK pa1 pa2 hba hba kwW.drew) (fun hHeld => ?_)
        refine takeL (i := 0) (v := ?_) rfl (by kernel_rfl) (by kernel_rfl) (by kernel_rfl) (fun _ _ _ h => h) (by rfl) ?_ (by assumption) ?_
        rotate_left
        · (intro w hSw; (try dsimp only at hSw); go_simp; (try with_reducible rfl))
        try simp only [Act.put, List.setIfInBounds_toArray, List.set_cons_zero, List.set_cons_succ]
        refine takeL (i := 1) (v := ?_) rfl (by kernel_rfl) (by kernel_rfl) (by kernel_rfl) (fun _ _ _ h => h) (by rfl) ?_ (by assumption) ?_
        rotate_left
        · (intro w hSw; (try dsimp only at hSw); go_simp; (try with_reducible rfl))
        try simp only [Act.put, List.setIfInBounds_toArray, List.set_cons_zero, List.set_cons_succ]
        refine takeL (i := 2) (v := ?_) rfl (by kernel_rfl) (by kernel_rfl) (by kernel_rfl) (fun _ _ _ h => h) (by rfl) ?_ (by assumption) ?_
        rotate_left
        · (intro w hSw; (try dsimp only at hSw); go_simp; (try with_reducible rfl))
        try simp only [Act.put, List.setIfInBounds_toArray, List.set_cons_zero, List.set_cons_succ]
        refine takeL (i := 3) (v := ?_) rfl (by kernel_rfl) (by kernel_rfl) (by kernel_rfl) (fun _ _ _ h => h) (by rfl) ?_ (by assumption) ?_
        rotate_left
        · (intro w hSw; (try dsimp only at hSw); go_simp; (try with_reducible rfl))
        try simp only [Act.put, List.setIfInBounds_toArray, List.set_cons_zero, List.set_cons_succ]
        refine takeL (i := 6) (v := ?_) rfl (by kernel_rfl) (by kernel_rfl) (by kernel_rfl) (fun _ _ _ h => h) (by rfl) ?_ (by assumption) ?_
        rotate_left
        · (intro w hSw; (try dsimp only at hSw); go_simp; (try with_reducible rfl))
        try simp only [Act.put, List.setIfInBounds_toArray, List.set_cons_zero, List.set_cons_succ]
        refine takeL (i := 7) (v := ?_) rfl (by kernel_rfl) (by kernel_rfl) (by kernel_rfl) (fun _ _ _ h => h) (by rfl) ?_ (by assumption) ?_
        rotate_left
        · (intro w hSw; (try dsimp only at hSw); go_simp; (try with_reducible rfl))
        try simp only [Act.put, List.setIfInBounds_toArray, List.set_cons_zero, List.set_cons_succ]
        refine callL (i := 4) rfl (by kernel_rfl) (fun Kont hK => ?_)
        go_simp
        refine hK.out _ _ ?_ (fun hHeld => ?_)
        · (exact holdK pa1 pa2 hba hba (hHeld.2.2.alloc _))
        clear hK Kont
        refine callL (i := 5) rfl (by kernel_rfl) (fun Kont hK => ?_)
        have OW := (OO.out.keep (kW.drew.alloc (.cells #[.int .i64 p.1, va] 68)))
        refine step_appendK rfl (.tmp 31) (.tmp 35) 61 rfl w.heap.size 68 i0 (.agg #[.int .i64 0, .slice none 0 0]) 32 Try.underlying61 hi hz0 hz1 hz2 rfl (.slice ao no co) O rfl OW W0.heap.size p.1 va p.2 68 rfl (Blk.new W0.drew _ _) (PA3.out.keeps hHeld.2.2) ?_ (by unfold maxLen; have := HLO.out; omega) (by have := HLO.out; omega) hHeld.2.2.size ?_
        · intro ad n c he h0
          obtain ⟨b', o', e', hb', -⟩ := (by have h := PA3.out; rw [he] at h; exact h.1.addr h0 : ∃ b o, some ad = some ⟨b, o, none⟩ ∧ b < w.heap.size ∧ _)
          cases e'
          refine ⟨Nat.lt_of_lt_of_le hb' hHeld.2.2.size, fun h => ?_⟩
          obtain ⟨xs, q1, -⟩ := OW
          have := (q1.lt _ h).1
          dsimp only at this
          omega
        · intro v4 w4 own4 g4
          have q4 := grown_low OW g4 hHeld.2.2 (Nat.le_refl _)
          obtain ⟨A4, c4, rfl⟩ := own4.form
          have OWN4 := Lib.hid own4
          clear own4 g4 OW
          refine hK.out _ _ ?_ (fun hHeld => ?_)
          · exact holdK pa1 pa2 hba hba q4
          clear hK Kont
          try simp only [Act.put, List.setIfInBounds_toArray, List.set_cons_zero, List.set_cons_succ]
          refine takeL (i := 8) (v := ?_) rfl (by kernel_rfl) (by kernel_rfl) (by kernel_rfl) (fun _ _ _ h => h) (by rfl) ?_ (by assumption) ?_
          rotate_left
          · (intro w hSw; (try dsimp only at hSw); go_simp; (try with_reducible rfl))
          try simp only [Act.put, List.setIfInBounds_toArray, List.set_cons_zero, List.set_cons_succ]
          refine takeL (i := 9) (v := ?_) rfl (by kernel_rfl) (by kernel_rfl) (by kernel_rfl) (fun _ _ _ h => h) (by rfl) ?_ (by assumption) ?_
          rotate_left
          · (intro w hSw; (try dsimp only at hSw); go_simp; (try with_reducible rfl))
          try simp only [Act.put, List.setIfInBounds_toArray, List.set_cons_zero, List.set_cons_succ]
          refine wpAnyH_done (by kernel_rfl) ?_ _
          go_wp2_with fail
          go_roundw
          case rel => exact ⟨a', ab, A4, na - 1, 0, (O ++ [p]).length, c', cb, c4, rfl, rfl, by first | rfl | (rw [List.length_append]; rfl), by omega, by have := HLO.out; simp; omega, ⟨A', [], O ++ [p], RPOST.out, RB.out, OWN4.out, HM2.out, by have := HLA.out; simp at this; omega, HLB.out, rfl⟩, q4⟩
          case measure => simp [lenOfV]; omega
    | cons q B' =>
      have hnb1 : 0 < nb := by have := HLB.out; simp at this; omega
      have hnb2 : ((nb : Int) == 0) = false := by simp; omega
      have hnb3 : (nb == 0) = false := by simp; omega
      obtain ⟨bb, ob, vb, rfl, hbb, pb1, pb2, pb3⟩ := RB.out.at (i := 0) (p := q) rfl
      simp only [Nat.zero_mul, Nat.add_zero] at pb1 pb2
      have hcb := RB.out.cap
      have PB3 := Lib.hid pb3
      clear pb3
      cases A' with
      | nil =>
        obtain rfl : na = 0 := by have := HLA.out; simpa using this.symm
        have HM2 : Hid ((O ++ [q]) ++ mergedP [] B' = M) := by show _ = _; rw [← HM.out]; simp [mergedP]
        go_wp2_with fail
        go_quiet (fail)
        have kW : Keeps wr (wr.drewN nq) [] := (Keeps.refl wr []).drewN nq
        generalize (wr.drewN nq) = W0 at *
        obtain ⟨a', c', hpost0, rpost⟩ := slice_postK (P := Try.prog) Try.underlying61 hi hz1 RB.out (m := 1) hnb1
        have hpost : ∀ w', (Instr.slice 61 (.slice (some ⟨bb, ob, none⟩) nb cb) (some (.int .i64 1)) none none).run Try.prog w' = .ok (.slice a' (nb - 1) c') w' := fun w' => hpost0 w'
        have RPOST := Lib.hid rpost
        clear rpost hpost0
        have kwW := kr.then kW
        have hbW : bb < W0.heap.size := Nat.lt_of_lt_of_le hbb kwW.size
        have d1 := (kwW.cell (p := ⟨bb, ob, none⟩) hbb (by simp)).trans pb1
        have d2 := (kwW.cell (p := ⟨bb, ob + 1, none⟩) hbb (by simp)).trans pb2
        go_wp2_with fail
        refine wp_region_held_drew (S := (fun w' => w'.cell? ⟨bb, ob, none⟩ = some (.int .i64 q.1) ∧ w'.cell? ⟨bb, ob + 1, none⟩ = some vb ∧ Keeps w w' [])) (by kernel_rfl) (holdK pb1 pb2 hbb hbb kwW.drew) (fun hHeld => ?_)
        refine takeL (i := 0) (v := ?_) rfl (by kernel_rfl) (by kernel_rfl) (by kernel_rfl) (fun _ _ _ h => h) (by rfl) ?_ (by assumption) ?_
        rotate_left
        · (intro w hSw; (try dsimp only at hSw); go_simp; (try with_reducible rfl))
        try simp only [Act.put, List.setIfInBounds_toArray, List.set_cons_zero, List.set_cons_succ]
        refine takeL (i := 1) (v := ?_) rfl (by kernel_rfl) (by kernel_rfl) (by kernel_rfl) (fun _ _ _ h => h) (by rfl) ?_ (by assumption) ?_
        rotate_left
        · (intro w hSw; (try dsimp only at hSw); go_simp; (try with_reducible rfl))
        try simp only [Act.put, List.setIfInBounds_toArray, List.set_cons_zero, List.set_cons_succ]
        refine takeL (i := 2) (v := ?_) rfl (by kernel_rfl) (by kernel_rfl) (by kernel_rfl) (fun _ _ _ h => h) (by rfl) ?_ (by assumption) ?_
        rotate_left
        · (intro w hSw; (try dsimp only at hSw); go_simp; (try with_reducible rfl))
        try simp only [Act.put, List.setIfInBounds_toArray, List.set_cons_zero, List.set_cons_succ]
        refine takeL (i := 3) (v := ?_) rfl (by kernel_rfl) (by kernel_rfl) (by kernel_rfl) (fun _ _ _ h => h) (by rfl) ?_ (by assumption) ?_
        rotate_left
        · (intro w hSw; (try dsimp only at hSw); go_simp; (try with_reducible rfl))
        try simp only [Act.put, List.setIfInBounds_toArray, List.set_cons_zero, List.set_cons_succ]
        refine takeL (i := 6) (v := ?_) rfl (by kernel_rfl) (by kernel_rfl) (by kernel_rfl) (fun _ _ _ h => h) (by rfl) ?_ (by assumption) ?_
        rotate_left
        · (intro w hSw; (try dsimp only at hSw); go_simp; (try with_reducible rfl))
        try simp only [Act.put, List.setIfInBounds_toArray, List.set_cons_zero, List.set_cons_succ]
        refine takeL (i := 7) (v := ?_) rfl (by kernel_rfl) (by kernel_rfl) (by kernel_rfl) (fun _ _ _ h => h) (by rfl) ?_ (by assumption) ?_
        rotate_left
        · (intro w hSw; (try dsimp only at hSw); go_simp; (try with_reducible rfl))
        try simp only [Act.put, List.setIfInBounds_toArray, List.set_cons_zero, List.set_cons_succ]
        refine callL (i := 4) rfl (by kernel_rfl) (fun Kont hK => ?_)
        go_simp
        refine hK.out _ _ ?_ (fun hHeld => ?_)
        · (exact holdK pb1 pb2 hbb hbb (hHeld.2.2.alloc _))
        clear hK Kont
        refine callL (i := 5) rfl (by kernel_rfl) (fun Kont hK => ?_)
        have OW := (OO.out.keep (kW.drew.alloc (.cells #[.int .i64 q.1, vb] 68)))
        refine step_appendK rfl (.tmp 39) (.tmp 43) 61 rfl w.heap.size 68 i0 (.agg #[.int .i64 0, .slice none 0 0]) 32 Try.underlying61 hi hz0 hz1 hz2 rfl (.slice ao no co) O rfl OW W0.heap.size q.1 vb q.2 68 rfl (Blk.new W0.drew _ _) (PB3.out.keeps hHeld.2.2) ?_ (by unfold maxLen; have := HLO.out; omega) (by have := HLO.out; omega) hHeld.2.2.size ?_
        · intro ad n c he h0
          obtain ⟨b', o', e', hb', -⟩ := (by have h := PB3.out; rw [he] at h; exact h.1.addr h0 : ∃ b o, some ad = some ⟨b, o, none⟩ ∧ b < w.heap.size ∧ _)
          cases e'
          refine ⟨Nat.lt_of_lt_of_le hb' hHeld.2.2.size, fun h => ?_⟩
          obtain ⟨xs, q1, -⟩ := OW
          have := (q1.lt _ h).1
          dsimp only at this
          omega
        · intro v4 w4 own4 g4
          have q4 := grown_low OW g4 hHeld.2.2 (Nat.le_refl _)
          obtain ⟨A4, c4, rfl⟩ := own4.form
          have OWN4 := Lib.hid own4
          clear own4 g4 OW
          refine hK.out _ _ ?_ (fun hHeld => ?_)
          · exact holdK pb1 pb2 hbb hbb q4
          clear hK Kont
          try simp only [Act.put, List.setIfInBounds_toArray, List.set_cons_zero, List.set_cons_succ]
          refine takeL (i := 8) (v := ?_) rfl (by kernel_rfl) (by kernel_rfl) (by kernel_rfl) (fun _ _ _ h => h) (by rfl) ?_ (by assumption) ?_
          rotate_left
          · (intro w hSw; (try dsimp only at hSw); go_simp; (try with_reducible rfl))
          try simp only [Act.put, List.setIfInBounds_toArray, List.set_cons_zero, List.set_cons_succ]
          refine takeL (i := 9) (v := ?_) rfl (by kernel_rfl) (by kernel_rfl) (by kernel_rfl) (fun _ _ _ h => h) (by rfl) ?_ (by assumption) ?_
          rotate_left
          · (intro w hSw; (try dsimp only at hSw); go_simp; (try with_reducible rfl))
          try simp only [Act.put, List.setIfInBounds_toArray, List.set_cons_zero, List.set_cons_succ]
          refine wpAnyH_done (by kernel_rfl) ?_ _
          go_wp2_with fail
          go_roundw
          case rel => exact ⟨aa, a', A4, 0, nb - 1, (O ++ [q]).length, ca, c', c4, rfl, rfl, by first | rfl | (rw [List.length_append]; rfl), by omega, by have := HLO.out; simp; omega, ⟨[], B', O ++ [q], RA.out, RPOST.out, OWN4.out, HM2.out, HLA.out, by have := HLB.out; simp at this; omega, rfl⟩, q4⟩
          case measure => simp [lenOfV]; omega
      | cons p A' =>
        have hna1 : 0 < na := by have := HLA.out; simp at this; omega
        obtain ⟨ba, oa, va, rfl, hba, pa1, pa2, pa3⟩ := RA.out.at (i := 0) (p := p) rfl
        simp only [Nat.zero_mul, Nat.add_zero] at pa1 pa2
        have hca := RA.out.cap
        have PA3 := Lib.hid pa3
        clear pa3
        have ca1 := (kr.cell (p := ⟨ba, oa, none⟩) hba (by simp)).trans pa1
        have cb1 := (kr.cell (p := ⟨bb, ob, none⟩) hbb (by simp)).trans pb1
        by_cases hle : p.1 ≤ q.1
        · have HM2 : Hid ((O ++ [p]) ++ mergedP A' (q :: B') = M) := by show _ = _; rw [← HM.out, mergedP_left hle]; simp
          have hle2 : decide (p.1 ≤ q.1) = true := decide_eq_true hle
          go_wp2_with fail
          go_quiet (fail)
          have kW : Keeps wr (wr.drewN nq) [] := (Keeps.refl wr []).drewN nq
          generalize (wr.drewN nq) = W0 at *
          obtain ⟨a', c', hpost0, rpost⟩ := slice_postK (P := Try.prog) Try.underlying61 hi hz1 RA.out (m := 1) hna1
          have hpost : ∀ w', (Instr.slice 61 (.slice (some ⟨ba, oa, none⟩) na ca) (some (.int .i64 1)) none none).run Try.prog w' = .ok (.slice a' (na - 1) c') w' := fun w' => hpost0 w'
          have RPOST := Lib.hid rpost
          clear rpost hpost0
          have kwW := kr.then kW
          have hbW : ba < W0.heap.size := Nat.lt_of_lt_of_le hba kwW.size
          have d1 := (kwW.cell (p := ⟨ba, oa, none⟩) hba (by simp)).trans pa1
          have d2 := (kwW.cell (p := ⟨ba, oa + 1, none⟩) hba (by simp)).trans pa2
          go_wp2_with fail
          refine wp_region_held_drew (S := (fun w' => w'.cell? ⟨ba, oa, none⟩ = some (.int .i64 p.1) ∧ w'.cell? ⟨ba, oa + 1, none⟩ = some va ∧ Keeps w w' [])) (by kernel_rfl) (holdK pa1 pa2 hba hba kwW.drew) (fun hHeld => ?_)
          refine takeL (i := 0) (v := ?_) rfl (by kernel_rfl) (by kernel_rfl) (by kernel_rfl) (fun _ _ _ h => h) (by rfl) ?_ (by assumption) ?_
          rotate_left
          · (intro w hSw; (try dsimp only at hSw); go_simp; (try with_reducible rfl))
          try simp only [Act.put, List.setIfInBounds_toArray, List.set_cons_zero, List.set_cons_succ]
          refine takeL (i := 1) (v := ?_) rfl (by kernel_rfl) (by kernel_rfl) (by kernel_rfl) (fun _ _ _ h => h) (by rfl) ?_ (by assumption) ?_
          rotate_left
          · (intro w hSw; (try dsimp only at hSw); go_simp; (try with_reducible rfl))
          try simp only [Act.put, List.setIfInBounds_toArray, List.set_cons_zero, List.set_cons_succ]
          refine takeL (i := 2) (v := ?_) rfl (by kernel_rfl) (by kernel_rfl) (by kernel_rfl) (fun _ _ _ h => h) (by rfl) ?_ (by assumption) ?_
          rotate_left
          · (intro w hSw; (try dsimp only at hSw); go_simp; (try with_reducible rfl))
          try simp only [Act.put, List.setIfInBounds_toArray, List.set_cons_zero, List.set_cons_succ]
          refine takeL (i := 3) (v := ?_) rfl (by kernel_rfl) (by kernel_rfl) (by kernel_rfl) (fun _ _ _ h => h) (by rfl) ?_ (by assumption) ?_
          rotate_left
          · (intro w hSw; (try dsimp only at hSw); go_simp; (try with_reducible rfl))
          try simp only [Act.put, List.setIfInBounds_toArray, List.set_cons_zero, List.set_cons_succ]
          refine takeL (i := 6) (v := ?_) rfl (by kernel_rfl) (by kernel_rfl) (by kernel_rfl) (fun _ _ _ h => h) (by rfl) ?_ (by assumption) ?_
          rotate_left
          · (intro w hSw; (try dsimp only at hSw); go_simp; (try with_reducible rfl))
          try simp only [Act.put, List.setIfInBounds_toArray, List.set_cons_zero, List.set_cons_succ]
          refine takeL (i := 7) (v := ?_) rfl (by kernel_rfl) (by kernel_rfl) (by kernel_rfl) (fun _ _ _ h => h) (by rfl) ?_ (by assumption) ?_
          rotate_left
          · (intro w hSw; (try dsimp only at hSw); go_simp; (try with_reducible rfl))
          try simp only [Act.put, List.setIfInBounds_toArray, List.set_cons_zero, List.set_cons_succ]
          refine callL (i := 4) rfl (by kernel_rfl) (fun Kont hK => ?_)
          go_simp
          refine hK.out _ _ ?_ (fun hHeld => ?_)
          · (exact holdK pa1 pa2 hba hba (hHeld.2.2.alloc _))
          clear hK Kont
          refine callL (i := 5) rfl (by kernel_rfl) (fun Kont hK => ?_)
          have OW := (OO.out.keep (kW.drew.alloc (.cells #[.int .i64 p.1, va] 68)))
          refine step_appendK rfl (.tmp 31) (.tmp 35) 61 rfl w.heap.size 68 i0 (.agg #[.int .i64 0, .slice none 0 0]) 32 Try.underlying61 hi hz0 hz1 hz2 rfl (.slice ao no co) O rfl OW W0.heap.size p.1 va p.2 68 rfl (Blk.new W0.drew _ _) (PA3.out.keeps hHeld.2.2) ?_ (by unfold maxLen; have := HLO.out; omega) (by have := HLO.out; omega) hHeld.2.2.size ?_
          · intro ad n c he h0
            obtain ⟨b', o', e', hb', -⟩ := (by have h := PA3.out; rw [he] at h; exact h.1.addr h0 : ∃ b o, some ad = some ⟨b, o, none⟩ ∧ b < w.heap.size ∧ _)
            cases e'
            refine ⟨Nat.lt_of_lt_of_le hb' hHeld.2.2.size, fun h => ?_⟩
            obtain ⟨xs, q1, -⟩ := OW
            have := (q1.lt _ h).1
            dsimp only at this
            omega
          · intro v4 w4 own4 g4
            have q4 := grown_low OW g4 hHeld.2.2 (Nat.le_refl _)
            obtain ⟨A4, c4, rfl⟩ := own4.form
            have OWN4 := Lib.hid own4
            clear own4 g4 OW
            refine hK.out _ _ ?_ (fun hHeld => ?_)
            · exact holdK pa1 pa2 hba hba q4
            clear hK Kont
            try simp only [Act.put, List.setIfInBounds_toArray, List.set_cons_zero, List.set_cons_succ]
            refine takeL (i := 8) (v := ?_) rfl (by kernel_rfl) (by kernel_rfl) (by kernel_rfl) (fun _ _ _ h => h) (by rfl) ?_ (by assumption) ?_
            rotate_left
            · (intro w hSw; (try dsimp only at hSw); go_simp; (try with_reducible rfl))
            try simp only [Act.put, List.setIfInBounds_toArray, List.set_cons_zero, List.set_cons_succ]
            refine takeL (i := 9) (v := ?_) rfl (by kernel_rfl) (by kernel_rfl) (by kernel_rfl) (fun _ _ _ h => h) (by rfl) ?_ (by assumption) ?_
            rotate_left
            · (intro w hSw; (try dsimp only at hSw); go_simp; (try with_reducible rfl))
            try simp only [Act.put, List.setIfInBounds_toArray, List.set_cons_zero, List.set_cons_succ]
            refine wpAnyH_done (by kernel_rfl) ?_ _
            go_wp2_with fail
            go_roundw
            case rel => exact ⟨a', (some ⟨bb, ob, none⟩), A4, na - 1, nb, (O ++ [p]).length, c', cb, c4, rfl, rfl, by first | rfl | (rw [List.length_append]; rfl), by omega, by have := HLO.out; simp; omega, ⟨A', q :: B', O ++ [p], RPOST.out, RB.out, OWN4.out, HM2.out, by have := HLA.out; simp at this; omega, HLB.out, rfl⟩, q4⟩
            case measure => simp [lenOfV]; omega
        · have HM2 : Hid ((O ++ [q]) ++ mergedP (p :: A') B' = M) := by show _ = _; rw [← HM.out, mergedP_right hle]; simp
          have hle2 : decide (p.1 ≤ q.1) = false := decide_eq_false hle
          go_wp2_with fail
          go_quiet (fail)
          have kW : Keeps wr (wr.drewN nq) [] := (Keeps.refl wr []).drewN nq
          generalize (wr.drewN nq) = W0 at *
          obtain ⟨a', c', hpost0, rpost⟩ := slice_postK (P := Try.prog) Try.underlying61 hi hz1 RB.out (m := 1) hnb1
          have hpost : ∀ w', (Instr.slice 61 (.slice (some ⟨bb, ob, none⟩) nb cb) (some (.int .i64 1)) none none).run Try.prog w' = .ok (.slice a' (nb - 1) c') w' := fun w' => hpost0 w'
          have RPOST := Lib.hid rpost
          clear rpost hpost0
          have kwW := kr.then kW
          have hbW : bb < W0.heap.size := Nat.lt_of_lt_of_le hbb kwW.size
          have d1 := (kwW.cell (p := ⟨bb, ob, none⟩) hbb (by simp)).trans pb1
          have d2 := (kwW.cell (p := ⟨bb, ob + 1, none⟩) hbb (by simp)).trans pb2
          go_wp2_with fail
          refine wp_region_held_drew (S := (fun w' => w'.cell? ⟨bb, ob, none⟩ = some (.int .i64 q.1) ∧ w'.cell? ⟨bb, ob + 1, none⟩ = some vb ∧ Keeps w w' [])) (by kernel_rfl) (holdK pb1 pb2 hbb hbb kwW.drew) (fun hHeld => ?_)
          refine takeL (i := 0) (v := ?_) rfl (by kernel_rfl) (by kernel_rfl) (by kernel_rfl) (fun _ _ _ h => h) (by rfl) ?_ (by assumption) ?_
          rotate_left
          · (intro w hSw; (try dsimp only at hSw); go_simp; (try with_reducible rfl))
          try simp only [Act.put, List.setIfInBounds_toArray, List.set_cons_zero, List.set_cons_succ]
          refine takeL (i := 1) (v := ?_) rfl (by kernel_rfl) (by kernel_rfl) (by kernel_rfl) (fun _ _ _ h => h) (by rfl) ?_ (by assumption) ?_
          rotate_left
          · (intro w hSw; (try dsimp only at hSw); go_simp; (try with_reducible rfl))
          try simp only [Act.put, List.setIfInBounds_toArray, List.set_cons_zero, List.set_cons_succ]
          refine takeL (i := 2) (v := ?_) rfl (by kernel_rfl) (by kernel_rfl) (by kernel_rfl) (fun _ _ _ h => h) (by rfl) ?_ (by assumption) ?_
          rotate_left
          · (intro w hSw; (try dsimp only at hSw); go_simp; (try with_reducible rfl))
          try simp only [Act.put, List.setIfInBounds_toArray, List.set_cons_zero, List.set_cons_succ]
          refine takeL (i := 3) (v := ?_) rfl (by kernel_rfl) (by kernel_rfl) (by kernel_rfl) (fun _ _ _ h => h) (by rfl) ?_ (by assumption) ?_
          rotate_left
          · (intro w hSw; (try dsimp only at hSw); go_simp; (try with_reducible rfl))
          try simp only [Act.put, List.setIfInBounds_toArray, List.set_cons_zero, List.set_cons_succ]
          refine takeL (i := 6) (v := ?_) rfl (by kernel_rfl) (by kernel_rfl) (by kernel_rfl) (fun _ _ _ h => h) (by rfl) ?_ (by assumption) ?_
          rotate_left
          · (intro w hSw; (try dsimp only at hSw); go_simp; (try with_reducible rfl))
          try simp only [Act.put, List.setIfInBounds_toArray, List.set_cons_zero, List.set_cons_succ]
          refine takeL (i := 7) (v := ?_) rfl (by kernel_rfl) (by kernel_rfl) (by kernel_rfl) (fun _ _ _ h => h) (by rfl) ?_ (by assumption) ?_
          rotate_left
          · (intro w hSw; (try dsimp only at hSw); go_simp; (try with_reducible rfl))
          try simp only [Act.put, List.setIfInBounds_toArray, List.set_cons_zero, List.set_cons_succ]
          refine callL (i := 4) rfl (by kernel_rfl) (fun Kont hK => ?_)
          go_simp
          refine hK.out _ _ ?_ (fun hHeld => ?_)
          · (exact holdK pb1 pb2 hbb hbb (hHeld.2.2.alloc _))
          clear hK Kont
          refine callL (i := 5) rfl (by kernel_rfl) (fun Kont hK => ?_)
          have OW := (OO.out.keep (kW.drew.alloc (.cells #[.int .i64 q.1, vb] 68)))
          refine step_appendK rfl (.tmp 39) (.tmp 43) 61 rfl w.heap.size 68 i0 (.agg #[.int .i64 0, .slice none 0 0]) 32 Try.underlying61 hi hz0 hz1 hz2 rfl (.slice ao no co) O rfl OW W0.heap.size q.1 vb q.2 68 rfl (Blk.new W0.drew _ _) (PB3.out.keeps hHeld.2.2) ?_ (by unfold maxLen; have := HLO.out; omega) (by have := HLO.out; omega) hHeld.2.2.size ?_
          · intro ad n c he h0
            obtain ⟨b', o', e', hb', -⟩ := (by have h := PB3.out; rw [he] at h; exact h.1.addr h0 : ∃ b o, some ad = some ⟨b, o, none⟩ ∧ b < w.heap.size ∧ _)
            cases e'
            refine ⟨Nat.lt_of_lt_of_le hb' hHeld.2.2.size, fun h => ?_⟩
            obtain ⟨xs, q1, -⟩ := OW
            have := (q1.lt _ h).1
            dsimp only at this
            omega
          · intro v4 w4 own4 g4
            have q4 := grown_low OW g4 hHeld.2.2 (Nat.le_refl _)
            obtain ⟨A4, c4, rfl⟩ := own4.form
            have OWN4 := Lib.hid own4
            clear own4 g4 OW
            refine hK.out _ _ ?_ (fun hHeld => ?_)
            · exact holdK pb1 pb2 hbb hbb q4
            clear hK Kont
            try simp only [Act.put, List.setIfInBounds_toArray, List.set_cons_zero, List.set_cons_succ]
            refine takeL (i := 8) (v := ?_) rfl (by kernel_rfl) (by kernel_rfl) (by kernel_rfl) (fun _ _ _ h => h) (by rfl) ?_ (by assumption) ?_
            rotate_left
            · (intro w hSw; (try dsimp only at hSw); go_simp; (try with_reducible rfl))
            try simp only [Act.put, List.setIfInBounds_toArray, List.set_cons_zero, List.set_cons_succ]
            refine takeL (i := 9) (v := ?_) rfl (by kernel_rfl) (by kernel_rfl) (by kernel_rfl) (fun _ _ _ h => h) (by rfl) ?_ (by assumption) ?_
            rotate_left
            · (intro w hSw; (try dsimp only at hSw); go_simp; (try with_reducible rfl))
            try simp only [Act.put, List.setIfInBounds_toArray, List.set_cons_zero, List.set_cons_succ]
            refine wpAnyH_done (by kernel_rfl) ?_ _
            go_wp2_with fail
            go_roundw
            case rel => exact ⟨(some ⟨ba, oa, none⟩), a', A4, na, nb - 1, (O ++ [q]).length, ca, c', c4, rfl, rfl, by first | rfl | (rw [List.length_append]; rfl), by omega, by have := HLO.out; simp; omega, ⟨p :: A', B', O ++ [q], RA.out, RPOST.out, OWN4.out, HM2.out, HLA.out, by have := HLB.out; simp at this; omega, rfl⟩, q4⟩
            case measure => simp [lenOfV]; omega

end Go.Proofs.Ythjbngnihcmedaa
