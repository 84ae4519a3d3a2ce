/-
  Walks of an index: Add.
-/
import Derived.Test.YticlhaofmcajpaaI5
import Derived.Test.YticlhaofmcajpaaGo
import Derived.Test.YticlhaofmcajpaaStr
import Derived.Deep.QuietTactic
import Derived.Deep.DeepCutAuto
import Derived.BigRegion
import Derived.IntWalk
namespace Go.Proofs.Yticlhaofmcajpaa
set_option linter.unusedVariables false
set_option linter.unusedSimpArgs false
set_option linter.unusedSectionVars false
open Go.RowKit

theorem Try.infoByte : (Try.prog.info? 5).map (fun i => (i.zero, i.size, i.bytes)) = some (some (.int .u8 0), 1, 1) := by kernel_rfl
theorem Try.infoInt : (Try.prog.info? 3).map (fun i => (i.zero, i.size, i.bytes)) = some (some (.int .i64 0), 1, 8) := by kernel_rfl

theorem from_key (p g M cb n K : Nat) (w : World) (h0 : w.cell? ⟨p, 0, none⟩ = some (.slice (some ⟨g, 0, none⟩) M cb)) (hK : 1 ≤ K) (hbn : n + K ≤ M) (hn : M ≤ cb) :
    Calls Try.prog 30 #[.pointer (some ⟨p, 0, none⟩), .int .i64 n, .int .i64 ((n : Int) + (K : Int))] w fun e w' => e = .returned (.slice (some ⟨g, n, none⟩) K K) ∧ w = w' := by
  have h := from_any p g M cb n (n + K) w h0 (by omega) hbn hn
  rw [Int.natCast_add, Nat.add_sub_cancel_left] at h
  exact h
theorem holdS {w w' : World} {a : Addr} {c : Value} (hc : w.cell? a = some c) (hl : a.block < w.heap.size) (kk : Keeps w w' []) : w'.cell? a = some c ∧ Keeps w w' [] := ⟨(kk.cell hl (by simp)).trans hc, kk⟩

/-- How Add ends. -/
def AddEnd (w : World) (p K : Nat) (B : List Int) (S : List Nat) (e : Ending) (w' : World) : Prop :=
  e = .returned (.int .i64 0) ∧ ∃ S', Idx w' p K B S' ∧ (∀ x ∈ S', x ∈ S ∨ w.heap.size ≤ x) ∧ Keeps w w' S

set_option maxRecDepth 100000 in
set_option maxHeartbeats 4000000 in
theorem add_any (p K : Nat) (B b : List Int) (v : Value) (S : List Nat) (w : World) (h : Idx w p K B S) (hv : RdI .u8 w v b) (hb : ∀ x ∈ b, 0 ≤ x ∧ x ≤ 255) (hlen : B.length + b.length ≤ 1000000) :
    Calls Try.prog 13 #[.pointer (some ⟨p, 0, none⟩), v] w (AddEnd w p K (B ++ b) S) := by
  obtain ⟨hi, hf⟩ := h
  have hK1 := hf.k1
  have hK8 := hf.k8
  obtain ⟨vb, vp, L, C, hS, P⟩ := hi.parts
  obtain ⟨A0, m, cp, rfl, hm, -⟩ := hv.form
  obtain ⟨i0, hi0, hz0, hz1, hz2⟩ := info_parts Try.infoByte
  obtain ⟨j0, hj0, yz0, yz1, yz2⟩ := info_parts Try.infoInt
  have FB : Hid (Fine K (B ++ b)) := ⟨hK1, hK8, by rw [List.length_append]; exact hlen, fun x hx => by rcases List.mem_append.1 hx with h | h; exact hf.bytes x h; exact hb x h⟩
  obtain ⟨ab, cb, rfl⟩ := own_form P.ob
  obtain ⟨ap, cpp, rfl⟩ := own_form P.ov
  have HS := Lib.hid hS
  have HP := Lib.hid P
  have HV := Lib.hid hv
  have HM := Lib.hid hm
  obtain ⟨c0, c1, c2, c3, c4, f0, f4⟩ := P.cells
  have hN := Lib.hid (none_any p K w hK1 c1)
  have lp := P.blk.lt
  clear hi hf hS P hv hm hb
  go_enter Try.func13, Try.ntmps13
  go_wp2_with fail
  refine wp_scope_fwd 0 (by rfl) ?_
  go_wp2_with (first
    | (go_at_call 28; refine hN.out.mono ?_; rintro e w' ⟨rfl, rfl⟩)
    | (at_builtin; refine wpList_appendJ rfl (.tmp 16) (.tmp 17) 22 rfl 0 5 i0 (.int .u8 0) 1 Try.underlying22 hi0 hz0 hz1 hz2 rfl (.slice ab B.length cb) B.length (B.map (.int .u8)) rfl HP.out.ob (.slice A0 m cp) rfl .u8 b HV.out (by unfold maxLen; omega) (by omega) (Nat.zero_le _) ?_; intro vb' w1 own1 hg1 hat1; obtain ⟨ab1, cb1, rfl⟩ := own_form own1; obtain ⟨d0, d1, d2, d3, d4, e0, e1⟩ := (⟨(HP.out.blkb hg1).cell 0, (HP.out.blkb hg1).cell 1, (HP.out.blkb hg1).cell 2, (HP.out.blkb hg1).cell 3, (HP.out.blkb hg1).cell 4, (HP.out.blkb hg1).frozen 0, (HP.out.blkb hg1).frozen 4⟩ : _ ∧ _ ∧ _ ∧ _ ∧ _ ∧ _ ∧ _)))
  obtain ⟨P2, K2⟩ := HP.out.bytes hK1 (Nat.le_refl _) (Nat.le_refl _) (Nat.le_refl _) own1 hg1 hat1
  have hS2 : Hid (Keeps w (w1.setCell ⟨p, 0, none⟩ (.slice ab1 (B.length + b.length) cb1)) S) := K2.mono (fun x hx => by rw [HS.out]; simp only [List.mem_cons, List.mem_append] at hx ⊢; rcases hx with h | h; exact .inl h; exact .inr (.inr (.inr (.inl h))))
  have hob : Hid (∀ x, Value.ownBlock (.slice ab1 (B.length + b.length) cb1) = some x → x ∈ S ∨ w.heap.size ≤ x) := fun x hx => by
    rcases hat1 with e | e
    · rw [e] at hx; left; rw [HS.out]; simp [hx]
    · rw [e] at hx; right; cases hx; exact Nat.le_refl _
  have hov : Hid (∀ x, Value.ownBlock (.slice ap (nk K B) cpp) = some x → x ∈ S ∨ w.heap.size ≤ x) := fun x hx => by left; rw [HS.out]; simp [hx]
  generalize w1.setCell ⟨p, 0, none⟩ (.slice ab1 (B.length + b.length) cb1) = w2 at *
  obtain ⟨N, hN2⟩ : ∃ N, N = nk K (B ++ b) := ⟨_, rfl⟩
  obtain ⟨n0, hn0⟩ : ∃ n0, n0 = nk K B := ⟨_, rfl⟩
  have hn0N : n0 ≤ N := by rw [hN2, hn0]; exact nk_append K B b
  have hNM : ∀ n, n < N ↔ n + K ≤ B.length + b.length := fun n => by rw [hN2, nk_iff hK1, List.length_append]
  rw [← hn0] at P2 hov ⊢
  have HNM := Lib.hid hNM
  have HN2 := Lib.hid hN2
  have hNb : N ≤ 1000001 := by rw [hN2]; unfold nk; rw [List.length_append]; omega
  obtain ⟨M, hM⟩ : ∃ M, M = B.length + b.length := ⟨_, rfl⟩
  obtain ⟨BB, hBB⟩ : ∃ BB, BB = B ++ b := ⟨_, rfl⟩
  rw [← hM] at hob P2 HNM hlen ⊢
  rw [← hBB] at P2 FB HN2
  have HBB := Lib.hid hBB
  clear hNM hN2 hn0 hat1 own1 hg1 d0 d1 d2 d3 d4 e0 e1 c0 c1 c2 c3 c4 f0 f4 HP HV K2 hM hBB
  go_loopw [5] (fun s5 wr => ∃ (n : Nat) (ap' : Option Addr) (cp' : Nat), s5 = .int .i64 n ∧ n0 ≤ n ∧ n ≤ N ∧ Parts wr p K BB n n n (.slice ab1 M cb1) (.slice ap' n cp') L C ∧ Hid (∀ x, Value.ownBlock (.slice ap' n cp') = some x → x ∈ S ∨ w.heap.size ≤ x) ∧ Hid (Keeps w wr S)) (fun s5 _ => N - (intOf s5).toNat)
  case atStart => exact ⟨n0, ap, cpp, rfl, Nat.le_refl _, hn0N, P2, hov, hS2⟩
  case round =>
    obtain ⟨n, ap', cp', rfl, hn1, hn2, P3, hov3, kS3⟩ := hrel
    obtain ⟨c0, c1, c2, c3, c4, f0, f4⟩ := P3.cells
    have hwr : IntKind.i64.wrap ((n : Int) + (K : Int)) = (n : Int) + (K : Int) := IntWalk.i64_in _ (by omega)
    by_cases hlt : n < N
    · have hle : n + K ≤ M := (HNM.out n).1 hlt
      have hle' : (n : Int) + (K : Int) ≤ (M : Int) := by omega
      go_wp2_with fail
      go_quiet (fail)
      clear hwr c0 c1 c2 c3 c4 f0 f4
      have P4 := P3.keeps ((Keeps.refl wr []).drewN nq)
      have kS4 := Lib.hid (kS3.out.drewN nq)
      clear P3 kS3
      generalize wr.drewN nq = wq at *
      obtain ⟨g, rfl⟩ : ∃ g, ab1 = some ⟨g, 0, none⟩ := by
        rcases P4.ob.2 with ⟨h1, h2⟩ | ⟨g, cap, cur, h1, -⟩
        · have h3 : BB.length = 0 := h2
          cases h1
          omega
        · cases h1; exact ⟨_, rfl⟩
      have hcb1 : M ≤ cb1 := by
        rcases P4.ob.2 with ⟨h1, h2⟩ | ⟨g', cap, cur, h1, -, -, h4, -⟩
        · cases h1
        · injection h1 with h5 h6 h7
          omega
      have lpq := P4.blk.lt
      have LTS := Lib.hid P4.lts
      obtain ⟨c0, c1, c2, c3, c4, f0, f4⟩ := P4.cells
      obtain ⟨x0, x1, x2, x3, x4, x5, x6, x7, hx⟩ := eight (pad_len (l := keyAt K BB n) (by have := keyAt_le K BB n; omega))
      have HX := Lib.hid hx
      have HKV : Hid (keyV (pad (keyAt K BB n)) = .agg #[.int .u8 x0, .int .u8 x1, .int .u8 x2, .int .u8 x3, .int .u8 x4, .int .u8 x5, .int .u8 x6, .int .u8 x7]) := by show _ = _; rw [hx]; rfl
      clear hx
      have hlenB : BB.length = M := by
        obtain ⟨_, _, e⟩ := own_form P4.ob
        injection e with e1 e2 e3
        exact e2.symm
      have hrk : RdI .u8 wq (.slice (some ⟨g, n, none⟩) K K) (keyAt K BB n) := by
        have h1 := own_reads P4.ob
        have h2 := h1.piece (p := n) (q := K) hle K (Nat.le_refl _)
        rw [Nat.zero_add] at h2
        exact h2
      have hkl : (keyAt K BB n).length = K := keyAt_len (by omega)
      have HRK := Lib.hid hrk
      have HKL := Lib.hid hkl
      clear hrk hkl hlenB
      have hwr : IntKind.i64.wrap ((n : Int) + (K : Int)) = (n : Int) + (K : Int) := IntWalk.i64_in _ (by omega)
      go_wp2_with fail
      go_cut [6] (fun s6 wx => ∃ bx, s6 = .pointer (some ⟨bx, 0, none⟩) ∧ Blk wx bx #[.int .u8 x0, .int .u8 x1, .int .u8 x2, .int .u8 x3, .int .u8 x4, .int .u8 x5, .int .u8 x6, .int .u8 x7] 64 ∧ wq.heap.size ≤ bx ∧ Keeps wq wx [])
      case first =>
        have kr := Keeps.refl wq []
        go_region_held3 (fun w' => w'.cell? ⟨p, 1, none⟩ = some (.int .i64 (K : Int)) ∧ Keeps wq w' [])
          (first
            | with_reducible exact ⟨c1, Keeps.refl _ _⟩
            | (refine holdS c1 lpq ?_; repeat' first | with_reducible assumption | with_reducible exact (‹_ ∧ Keeps wq _ []›).2 | with_reducible refine Keeps.drew ?_ | with_reducible refine Keeps.alloc ?_ _ | with_reducible refine Keeps.setCell' (.inl (Nat.le_refl _)) ?_ | with_reducible refine Keeps.setCell' (.inl q2) ?_))
          (first
            | (go_at_call 30; refine (from_key p g M cb1 n K _ ((‹_ ∧ Keeps wq _ []›).2.cell (p := ⟨p, 0, none⟩) lpq (by simp) |>.trans c0) hK1 hle hcb1).mono ?_; rintro e w' ⟨rfl, rfl⟩)
            | (go_at_call 29; obtain ⟨g1, g2⟩ := ‹_ ∧ Keeps wq _ []›; refine (of_any p K _ (keyAt K BB n) _ g1 (Nat.lt_of_lt_of_le lpq g2.size) hK1 hK8 (HRK.out.keeps g2) HKL.out).mono ?_; rintro e w' ⟨rfl, kk⟩; rw [HKV.out]; have q1 := g2.then kk; have q2 := q1.size; try (have bz : Blk w' wq.heap.size #[.int .u8 0, .int .u8 0, .int .u8 0, .int .u8 0, .int .u8 0, .int .u8 0, .int .u8 0, .int .u8 0] 64 := (by first | with_reducible exact Blk.keeps (Blk.new wq _ _) kk (by simp) | with_reducible exact Blk.keeps (Blk.drew (Blk.new wq _ _)) kk (by simp)); obtain ⟨y0, y1, y2, y3, y4, y5, y6, y7, fy0, fy1, fy2, fy3, fy4, fy5, fy6, fy7⟩ := bz.eight)))
        all_goals
          go_wp2_with fail
          go_meet
          first
          | with_reducible exact ⟨_, rfl, Blk.new w' _ _, q2, q1.alloc _⟩
          | ((with_reducible refine ⟨_, rfl, ?_, Nat.le_refl _, ?_⟩)
             · exact (((((((bz.set 0 (.int .u8 x0)).set 1 (.int .u8 x1)).set 2 (.int .u8 x2)).set 3 (.int .u8 x3)).set 4 (.int .u8 x4)).set 5 (.int .u8 x5)).set 6 (.int .u8 x6)).set 7 (.int .u8 x7)
             · repeat' first | with_reducible exact q1 | with_reducible refine Keeps.setCell' (.inl (Nat.le_refl _)) ?_)
      case rest =>
        obtain ⟨bx, rfl, bX, hbx, kx⟩ := hcut
        clear c0 c1 c2 c3 c4 f0 f4 hwr
        have P5 := P4.keeps kx
        have kS5 := Lib.hid (kS4.out.then kx)
        have bXlt := bX.lt
        clear P4 kS4 kx HRK HKL
        obtain ⟨c0, c1, c2, c3, c4, f0, f4⟩ := P5.cells
        obtain ⟨y0, y1, y2, y3, y4, y5, y6, y7, -⟩ := bX.eight
        have hq8 : KeyWf (pad (keyAt K BB n)) := ⟨pad_len (by have := keyAt_le K BB n; omega), pad_bytes (keyAt_bytes FB.out.bytes)⟩
        have hlk : ∀ k, (Instr.lookup 58 (.map (some L)) (keyV (pad (keyAt K BB n))) true).run Try.prog (wc.drewN k) = .ok (.tuple #[.int .i64 ((lastN K BB n (pad (keyAt K BB n))).getD 0), .bool (lastN K BB n (pad (keyAt K BB n))).isSome]) (wc.drewN k) := fun k => (P5.mL.keeps ((Keeps.refl wc []).drewN k) (by simp)).look_ok hq8
        rw [HKV.out] at hlk
        have hpa : Hid (prevAt K BB n = (lastN K BB n (pad (keyAt K BB n))).getD (-1)) := rfl
        have hpb := prevAt_bd K BB n
        obtain ⟨o, ho⟩ : ∃ o, o = lastN K BB n (pad (keyAt K BB n)) := ⟨_, rfl⟩
        rw [← ho] at hlk hpa
        clear ho hpb
        go_wp2_with fail
        go_quiet (fail)
        clear hlk
        have P6 := P5.keeps ((Keeps.refl wc []).drewN nq)
        have bX6 := bX.drewN nq
        have kS6 := Lib.hid (kS5.out.drewN nq)
        clear P5 kS5 bX c0 c1 c2 c3 c4 f0 f4 y0 y1 y2 y3 y4 y5 y6 y7
        have bXlt' : bx < (wc.drewN nq).heap.size := bXlt
        have hbx' := bX6.lt
        generalize wc.drewN nq = wd at *
        go_upto_if 65 with (fail)
        go_cut [7] (fun s7 wx => s7 = .int .i64 (prevAt K BB n) ∧ wx = wd)
        case first =>
          cases o with
          | none =>
            go_wp2_with fail
            go_meet
            exact ⟨by rw [hpa.out]; rfl, rfl⟩
          | some z =>
            go_wp2_with fail
            go_meet
            exact ⟨by rw [hpa.out]; rfl, rfl⟩
        case rest =>
          obtain ⟨rfl, rfl⟩ := hcut
          have hbp : bx ≠ p := by omega
          have hbL : bx ≠ L := by have := LTS.out.2.1; omega
          have hbC : bx ≠ C := by have := LTS.out.2.2.1; omega
          have hbv : Hid (∀ x, Value.ownBlock (.slice ap' n cp') = some x → x ≠ bx) := fun x hx => by have := LTS.out.2.2.2.2 x hx; omega
          have P7 := P6.keeps ((Keeps.refl wc []).alloc (.cells #[.int .i64 (prevAt K BB n)] 3))
          have kS7 := Lib.hid (kS6.out.alloc (.cells #[.int .i64 (prevAt K BB n)] 3))
          have bX7 := bX6.alloc (.cells #[.int .i64 (prevAt K BB n)] 3)
          have c4 := P6.blk.cell 4
          clear hpa LTS
          go_wp2_with (first | (at_builtin; refine wpList_append_own_at _ rfl (.tmp 70) (.tmp 72) 37 rfl 0 3 j0 (.int .i64 0) 1 8 Try.underlying37 hj0 yz0 yz1 yz2 rfl (by decide) (.slice ap' n cp') n ((prevL K BB n).map (.int .i64)) rfl P7.ov ⟨wc.heap.size, 0, none⟩ 1 1 [.int .i64 (prevAt K BB n)] rfl rfl (cell_one_new _ _ _) (by simp [Value.oneCell']) (by unfold maxLen; omega) (by omega) (Nat.zero_le _) ?_; intro vp' w1 own1 hg1 _ hat1; obtain ⟨apn, cpn, rfl⟩ := own_form own1; obtain ⟨d4, e4⟩ := (⟨(P7.blkv hg1).cell 4, (P7.blkv hg1).frozen 4⟩ : _ ∧ _)))
          obtain ⟨P8, K8⟩ := P7.prev own1 hg1 hat1
          have bX8 := bX7.keeps K8 (fun hm => by rcases List.mem_cons.1 hm with e | hm; exact hbp e; exact hbv.out bx (by simpa using hm) rfl)
          have hov8 : Hid (∀ x, Value.ownBlock (.slice apn (n + 1) cpn) = some x → x ∈ S ∨ w.heap.size ≤ x) := fun x hx => by
            rcases hat1 with e | e
            · rw [e] at hx; exact hov3.out x hx
            · rw [e] at hx; right; have := kS7.out.size; cases hx; omega
          have hsz7 := K8.size
          have kS8 : Hid (Keeps w (w1.setCell ⟨p, 4, none⟩ (.slice apn (n + 1) cpn)) S) := kS7.out.trans K8 (fun x hx hlt => by
            rcases List.mem_cons.1 hx with rfl | hx
            · rw [HS.out]; simp
            · rcases hov3.out x (by simpa using hx) with h | h
              · exact h
              · omega)
          clear own1 hg1 hat1 d4 e4 P6 P7 K8 c4 kS6 kS7 bX6 bX7 hov3
          generalize w1.setCell ⟨p, 4, none⟩ (.slice apn (n + 1) cpn) = we at *
          have P8d := P8.keeps ((Keeps.refl we []).drew)
          obtain ⟨wf, hu1, hu2, hu3⟩ := P8d.mL.update hq8 (n : Int) (WalkArith.wf_i64 (by omega)) (by unfold maxLen; omega)
          rw [HKV.out] at hu1
          obtain ⟨P9, K9⟩ := P8d.last hu2 hu3
          have bX9 := bX8.drew.keeps K9 (by simpa using hbL)
          have kS9 : Hid (Keeps w wf S) := kS8.out.drew.trans K9 (fun x hx _ => by have := List.mem_singleton.1 hx; subst this; rw [HS.out]; simp)
          obtain ⟨c0, c1, c2, c3, c4, f0, f4⟩ := P8.cells
          obtain ⟨y0, y1, y2, y3, y4, y5, y6, y7, -⟩ := bX8.eight
          have HU2 := Lib.hid hu2
          have HU3 := Lib.hid hu3
          clear hu2 hu3 K9 P8d
          go_region
          clear hu1 c0 c1 c2 c3 c4 f0 f4 y0 y1 y2 y3 y4 y5 y6 y7 P8 bX8 kS8 HU2 HU3
          obtain ⟨c0, c1, c2, c3, c4, f0, f4⟩ := P9.cells
          obtain ⟨y0, y1, y2, y3, y4, y5, y6, y7, -⟩ := bX9.eight
          go_wp2_with fail
          have P9d := P9.keeps ((Keeps.refl wf []).drew)
          obtain ⟨hcb0, hcb1⟩ := cntN_bd K BB n (pad (keyAt K BB n))
          have hl0 := P9d.mC.look hq8
          obtain ⟨v0, st, w2, w3, e1, e2, e3, e4, e5, e6⟩ := P9d.mC.entry hq8 ((cntN K BB n (pad (keyAt K BB n))).getD 0 + 1) (WalkArith.wf_i64 (by omega)) (by unfold maxLen; omega)
          rw [← cntN_succ] at e4
          rw [HKV.out] at hl0 e1 e2
          generalize (cntN K BB n (pad (keyAt K BB n))).getD 0 = c at *
          obtain ⟨P10, K10⟩ := P9d.cnt e4 e6
          have kS10 : Hid (Keeps w w3 S) := kS9.out.drew.trans K10 (fun x hx _ => by have := List.mem_singleton.1 hx; subst this; rw [HS.out]; simp)
          have hc1 : c ≤ 1000001 := by omega
          clear e4 e5 e6 K10 P9d hcb1 hq8
          go_region
          go_wp2_with fail
          go_roundw
          case rel => exact ⟨n + 1, apn, cpn, by go_num, by omega, by omega, P10, hov8, kS10⟩
          case measure => simp [intOf]; omega
    · obtain rfl : n = N := by omega
      have hge : ¬ n + K ≤ M := fun hle => hlt ((HNM.out n).2 hle)
      have hge' : ¬ (n : Int) + (K : Int) ≤ (M : Int) := by omega
      have hge2 : decide ((n : Int) + (K : Int) ≤ (M : Int)) = false := decide_eq_false hge'
      go_wp2_with fail
      go_quiet (fail)
      have P4 := P3.keeps ((Keeps.refl wr []).drewN nq)
      have kS4 := Lib.hid (kS3.out.drewN nq)
      clear hwr c0 c1 c2 c3 c4 f0 f4 P3 kS3
      generalize wr.drewN nq = wq at *
      go_wp2_with fail
      simp only [Exit.jump]
      go_ret
      have e : nk K (B ++ b) = n := by rw [← HBB.out]; exact HN2.out.symm
      refine ⟨rfl, p :: L :: C :: ((Value.ownBlock (.slice ab1 M cb1)).toList ++ (Value.ownBlock (.slice ap' n cp')).toList), ⟨?_, ?_⟩, ?_, kS4.out⟩
      · rw [e, ← HBB.out]
        exact P4.idx
      · rw [← HBB.out]; exact FB.out
      · intro x hx
        simp only [List.mem_cons, List.mem_append, Option.mem_toList] at hx
        rcases hx with rfl | rfl | rfl | hx | hx
        · left; rw [HS.out]; simp
        · left; rw [HS.out]; simp
        · left; rw [HS.out]; simp
        · exact hob.out x hx
        · exact hov3.out x hx

end Go.Proofs.Yticlhaofmcajpaa
