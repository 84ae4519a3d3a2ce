/-
  Walks: container/heap over the queue of package train: down.
-/
import Derived.Test.YtogengangfohfaaGreatQ15
namespace Go.Proofs.YtogengangfohfaaGreat
set_option linter.unusedVariables false
set_option linter.unusedSimpArgs false
set_option linter.unusedSectionVars false
open Go.RowKit

/-- How down ends. -/
def DnEnd (pv : Int → Value) (Z : Nat → Prop) (w : World) (p N : Nat) (q : List It) (e : Ending) (w' : World) : Prop := (∃ b, e = .returned (.bool b)) ∧ ∃ q', q'.Perm q ∧ HeapN q' N ∧ el q' N = el q N ∧ QAt pv Z w' p q' ∧ KeepsZ Z w w'

set_option maxRecDepth 100000 in
set_option maxHeartbeats 4000000 in
theorem down_any (pv : Int → Value) (Z : Nat → Prop) (p N : Nat) (q : List It) (w : World) (h : QAt pv Z w p q) (hpv : PvOk pv) (hu : DownI q N 0) (hl : q.length = N + 1) (hn : N ≤ 100000000) :
    Calls Tryz.prog 174 #[ifQ p, .int .i64 0, .int .i64 N] w (DnEnd pv Z w p N q) := by
  have H := Lib.hid h
  have HU := Lib.hid hu
  have HL := Lib.hid hl
  clear h hu hl
  go_enter Tryz.func174, Tryz.ntmps174
  go_wp2_with fail
  go_loopw [7] (fun s7 wr => ∃ (i : Nat) (q' : List It), s7 = .int .i64 i ∧ i ≤ N ∧ Hid (q'.Perm q) ∧ Hid (el q' N = el q N) ∧ Hid (DownI q' N i) ∧ QAt pv Z wr p q' ∧ KeepsZ Z w wr) (fun s7 _ => N - (intOf s7).toNat)
  case atStart => exact ⟨0, q, rfl, Nat.zero_le _, List.Perm.refl q, rfl, HU.out, H.out, KeepsZ.refl Z w⟩
  case round =>
    obtain ⟨i, q', rfl, hiN, hp, hlast, hup, hq, kz⟩ := hrel
    obtain ⟨⟨g, c, bp, rq, zg⟩, zp⟩ := hq
    obtain ⟨cp0, cp1⟩ := bp.one
    have hlen := hp.out.length_eq.trans HL.out
    rw [hlen] at rq cp0 bp
    have HQ := Lib.hid rq
    have HP := Lib.hid bp
    have HLEN := Lib.hid hlen
    have hpg : Hid (p ≠ g) := fun e => by subst e; exact own_neO HQ.out.2 HP.out (fun cs h => by cases h) rfl
    clear rq bp hlen
    have hqa : Hid (∀ wx, Keeps wr wx [] → QAt pv Z wx p q' ∧ KeepsZ Z w wx) := fun wx k => ⟨⟨⟨g, c, by rw [HLEN.out]; exact HP.out.keeps k (by simp), by rw [HLEN.out]; exact HQ.out.keeps k (by simp), zg⟩, zp⟩, kz.trans (KeepsZ.of k (fun k hk => by cases hk))⟩
    by_cases hend : N ≤ 2 * i + 1
    · have he1 : (N : Int) ≤ 2 * (i : Int) + 1 := by omega
      have hh : HeapN q' N := down_end hup.out hend
      have HH := Lib.hid hh
      clear hh
      by_cases hi0 : 0 < i
      · have hi0' : (0 : Int) < (i : Int) := by omega
        go_wp2_with fail
        go_ret
        exact ⟨⟨_, rfl⟩, q', hp.out, HH.out, hlast.out, hqa.out _ (Keeps.refl _ _)⟩
      · have hi0' : decide ((0 : Int) < (i : Int)) = false := decide_eq_false (by omega)
        go_wp2_with fail
        go_ret
        exact ⟨⟨_, rfl⟩, q', hp.out, HH.out, hlast.out, hqa.out _ (Keeps.refl _ _)⟩
    · have he1 : decide ((N : Int) ≤ 2 * (i : Int) + 1) = false := decide_eq_false (by omega)
      have he2 : decide (2 * (i : Int) + 1 < (0 : Int)) = false := decide_eq_false (by omega)
      have hmL := Tryz.methLess ⟨p, 0, none⟩ _ wr cp0
      obtain ⟨A, hA⟩ : ∃ A : Nat, A = 2 * i + 1 := ⟨_, rfl⟩
      obtain ⟨B, hB⟩ : ∃ B : Nat, B = 2 * i + 2 := ⟨_, rfl⟩
      have hA1 : Hid (2 * (i : Int) + 1 = (A : Int)) := by show _ = _; omega
      have hB1 : Hid ((A : Int) + 1 = (B : Int)) := by show _ = _; omega
      have hAN : A < N := by omega
      have HA := Lib.hid hA
      have HB := Lib.hid hB
      clear hA hB
      by_cases h2 : 2 * i + 2 < N
      · have h2' : 2 * (i : Int) + 1 + 1 < (N : Int) := by omega
        go_wp2_with fail
        rw [hA1.out, hB1.out]
        have hBN : B < N := by have := HB.out; omega
        obtain ⟨b1, hb1⟩ : ∃ b, lessI (el q' B) (el q' A) = b := ⟨_, rfl⟩
        have HB1 := Lib.hid hb1
        clear hb1
        refine (less_any pv g (N + 1) c B A q' wr HQ.out (by omega) (by omega) (by omega) HB1.out).mono ?_
        rintro e w2 ⟨rfl, m, rfl⟩
        have kx : Keeps wr (wr.drewN m) [] := (Keeps.refl wr []).drewN m
        have hmL := Tryz.methLess ⟨p, 0, none⟩ _ (wr.drewN m) cp0
        cases b1
        · have hmin : Hid (∀ k, 0 < k → k < N → par k = i → leI (el q' A) (el q' k)) := fun k h0 hk hp => by
            rcases (par_kids h0).1 hp with e | e
            · rw [HA.out, ← e]; exact leI_refl _
            · rw [e, ← HB.out]; exact HB1.out
          go_wp2_with fail
          have hJ : A < N := by omega
          have hJ0 : 0 < A := by have := HA.out; have := HB.out; omega
          have hJp : Hid (par A = i) := by show _ = _; unfold par; have := HA.out; have := HB.out; omega
          obtain ⟨b2, hb2⟩ : ∃ b, lessI (el q' A) (el q' i) = b := ⟨_, rfl⟩
          have HB2 := Lib.hid hb2
          clear hb2
          refine (less_any pv g (N + 1) c A i q' (wr.drewN m) (HQ.out.keeps kx (by simp)) (by omega) (by omega) (by omega) HB2.out).mono ?_
          rintro e w3 ⟨rfl, m3, rfl⟩
          have k3 : Keeps wr (wr.drewN (m + m3)) [] := (Keeps.refl wr []).drewN _
          clear hmL
          cases b2
          · have hh : HeapN q' N := down_stop hup.out hmin.out HB2.out
            have HH := Lib.hid hh
            clear hh
            by_cases hi0 : 0 < i
            · have hi0' : (0 : Int) < (i : Int) := by omega
              go_wp2_with fail
              go_ret
              exact ⟨⟨_, rfl⟩, q', hp.out, HH.out, hlast.out, hqa.out _ k3⟩
            · have hi0' : decide ((0 : Int) < (i : Int)) = false := decide_eq_false (by omega)
              go_wp2_with fail
              go_ret
              exact ⟨⟨_, rfl⟩, q', hp.out, HH.out, hlast.out, hqa.out _ k3⟩
          · have hmS := Tryz.methSwap ⟨p, 0, none⟩ _ (wr.drewN (m + m3)) cp0
            go_wp2_with fail
            refine (swap_any pv g (N + 1) c i A q' _ (HQ.out.keeps k3 (by simp)) hpv (by omega) (by omega) (by omega)).mono ?_
            rintro e w4 ⟨rfl, rq4, k4⟩
            clear hmS
            have HQ4 := Lib.hid rq4
            have bp4 : Blk w4 p #[.slice (some ⟨g, 0, none⟩) (N + 1) c] 95 := (HP.out.keeps k3 (by simp)).keeps k4 (fun hm => hpg.out (List.mem_singleton.1 hm))
            have hl4 : (swp q' i A).length = N + 1 := by rw [swp_len]; exact HLEN.out
            have hp4 : Hid ((swp q' i A).Perm q) := (swp_perm (by rw [HLEN.out]; omega) (by rw [HLEN.out]; omega)).trans hp.out
            have hlast4 : Hid (el (swp q' i A) N = el q N) := by
              show _ = _
              rw [el_swp (by rw [HLEN.out]; omega) (by rw [HLEN.out]; omega), if_neg (by omega), if_neg (by omega)]
              exact hlast.out
            have hu4 : Hid (DownI (swp q' i A) N A) := down_step hup.out (by rw [HLEN.out]; omega) hJ hJ0 hJp.out hmin.out HB2.out
            have qa4 : QAt pv Z w4 p (swp q' i A) := ⟨⟨g, c, by rw [hl4]; exact bp4, by rw [hl4]; exact HQ4.out, zg⟩, zp⟩
            have kz4 : KeepsZ Z w w4 := (hqa.out _ k3).2.trans (KeepsZ.of k4 (fun k hk => by rw [List.mem_singleton.1 hk]; exact zg))
            have hiJ : i < A := by have := HA.out; have := HB.out; omega
            clear rq4 k4 bp4 hl4
            go_wp2_with fail
            go_roundw
            case rel => exact ⟨A, swp q' i A, rfl, by omega, hp4, hlast4, hu4, qa4, kz4⟩
            case measure => simp [intOf]; omega
        · have hmin : Hid (∀ k, 0 < k → k < N → par k = i → leI (el q' B) (el q' k)) := fun k h0 hk hp => by
            rcases (par_kids h0).1 hp with e | e
            · rw [e, ← HA.out]; exact leI_of_less HB1.out
            · rw [HB.out, ← e]; exact leI_refl _
          go_wp2_with fail
          have hJ : B < N := by omega
          have hJ0 : 0 < B := by have := HA.out; have := HB.out; omega
          have hJp : Hid (par B = i) := by show _ = _; unfold par; have := HA.out; have := HB.out; omega
          obtain ⟨b2, hb2⟩ : ∃ b, lessI (el q' B) (el q' i) = b := ⟨_, rfl⟩
          have HB2 := Lib.hid hb2
          clear hb2
          refine (less_any pv g (N + 1) c B i q' (wr.drewN m) (HQ.out.keeps kx (by simp)) (by omega) (by omega) (by omega) HB2.out).mono ?_
          rintro e w3 ⟨rfl, m3, rfl⟩
          have k3 : Keeps wr (wr.drewN (m + m3)) [] := (Keeps.refl wr []).drewN _
          clear hmL
          cases b2
          · have hh : HeapN q' N := down_stop hup.out hmin.out HB2.out
            have HH := Lib.hid hh
            clear hh
            by_cases hi0 : 0 < i
            · have hi0' : (0 : Int) < (i : Int) := by omega
              go_wp2_with fail
              go_ret
              exact ⟨⟨_, rfl⟩, q', hp.out, HH.out, hlast.out, hqa.out _ k3⟩
            · have hi0' : decide ((0 : Int) < (i : Int)) = false := decide_eq_false (by omega)
              go_wp2_with fail
              go_ret
              exact ⟨⟨_, rfl⟩, q', hp.out, HH.out, hlast.out, hqa.out _ k3⟩
          · have hmS := Tryz.methSwap ⟨p, 0, none⟩ _ (wr.drewN (m + m3)) cp0
            go_wp2_with fail
            refine (swap_any pv g (N + 1) c i B q' _ (HQ.out.keeps k3 (by simp)) hpv (by omega) (by omega) (by omega)).mono ?_
            rintro e w4 ⟨rfl, rq4, k4⟩
            clear hmS
            have HQ4 := Lib.hid rq4
            have bp4 : Blk w4 p #[.slice (some ⟨g, 0, none⟩) (N + 1) c] 95 := (HP.out.keeps k3 (by simp)).keeps k4 (fun hm => hpg.out (List.mem_singleton.1 hm))
            have hl4 : (swp q' i B).length = N + 1 := by rw [swp_len]; exact HLEN.out
            have hp4 : Hid ((swp q' i B).Perm q) := (swp_perm (by rw [HLEN.out]; omega) (by rw [HLEN.out]; omega)).trans hp.out
            have hlast4 : Hid (el (swp q' i B) N = el q N) := by
              show _ = _
              rw [el_swp (by rw [HLEN.out]; omega) (by rw [HLEN.out]; omega), if_neg (by omega), if_neg (by omega)]
              exact hlast.out
            have hu4 : Hid (DownI (swp q' i B) N B) := down_step hup.out (by rw [HLEN.out]; omega) hJ hJ0 hJp.out hmin.out HB2.out
            have qa4 : QAt pv Z w4 p (swp q' i B) := ⟨⟨g, c, by rw [hl4]; exact bp4, by rw [hl4]; exact HQ4.out, zg⟩, zp⟩
            have kz4 : KeepsZ Z w w4 := (hqa.out _ k3).2.trans (KeepsZ.of k4 (fun k hk => by rw [List.mem_singleton.1 hk]; exact zg))
            have hiJ : i < B := by have := HA.out; have := HB.out; omega
            clear rq4 k4 bp4 hl4
            go_wp2_with fail
            go_roundw
            case rel => exact ⟨B, swp q' i B, rfl, by omega, hp4, hlast4, hu4, qa4, kz4⟩
            case measure => simp [intOf]; omega
      · have h2' : decide (2 * (i : Int) + 1 + 1 < (N : Int)) = false := decide_eq_false (by omega)
        go_wp2_with fail
        rw [hA1.out, hB1.out]
        have kx : Keeps wr wr [] := Keeps.refl wr []
        have hmin : Hid (∀ k, 0 < k → k < N → par k = i → leI (el q' A) (el q' k)) := fun k h0 hk hp => by
          rcases (par_kids h0).1 hp with e | e
          · rw [HA.out, ← e]; exact leI_refl _
          · omega
        have hJ : A < N := by omega
        have hJ0 : 0 < A := by have := HA.out; have := HB.out; omega
        have hJp : Hid (par A = i) := by show _ = _; unfold par; have := HA.out; have := HB.out; omega
        obtain ⟨b2, hb2⟩ : ∃ b, lessI (el q' A) (el q' i) = b := ⟨_, rfl⟩
        have HB2 := Lib.hid hb2
        clear hb2
        refine (less_any pv g (N + 1) c A i q' wr (HQ.out.keeps kx (by simp)) (by omega) (by omega) (by omega) HB2.out).mono ?_
        rintro e w3 ⟨rfl, m3, rfl⟩
        have k3 : Keeps wr ((wr).drewN m3) [] := kx.drewN m3
        clear hmL
        cases b2
        · have hh : HeapN q' N := down_stop hup.out hmin.out HB2.out
          have HH := Lib.hid hh
          clear hh
          by_cases hi0 : 0 < i
          · have hi0' : (0 : Int) < (i : Int) := by omega
            go_wp2_with fail
            go_ret
            exact ⟨⟨_, rfl⟩, q', hp.out, HH.out, hlast.out, hqa.out _ k3⟩
          · have hi0' : decide ((0 : Int) < (i : Int)) = false := decide_eq_false (by omega)
            go_wp2_with fail
            go_ret
            exact ⟨⟨_, rfl⟩, q', hp.out, HH.out, hlast.out, hqa.out _ k3⟩
        · have hmS := Tryz.methSwap ⟨p, 0, none⟩ _ ((wr).drewN m3) cp0
          go_wp2_with fail
          refine (swap_any pv g (N + 1) c i A q' _ (HQ.out.keeps k3 (by simp)) hpv (by omega) (by omega) (by omega)).mono ?_
          rintro e w4 ⟨rfl, rq4, k4⟩
          clear hmS
          have HQ4 := Lib.hid rq4
          have bp4 : Blk w4 p #[.slice (some ⟨g, 0, none⟩) (N + 1) c] 95 := (HP.out.keeps k3 (by simp)).keeps k4 (fun hm => hpg.out (List.mem_singleton.1 hm))
          have hl4 : (swp q' i A).length = N + 1 := by rw [swp_len]; exact HLEN.out
          have hp4 : Hid ((swp q' i A).Perm q) := (swp_perm (by rw [HLEN.out]; omega) (by rw [HLEN.out]; omega)).trans hp.out
          have hlast4 : Hid (el (swp q' i A) N = el q N) := by
            show _ = _
            rw [el_swp (by rw [HLEN.out]; omega) (by rw [HLEN.out]; omega), if_neg (by omega), if_neg (by omega)]
            exact hlast.out
          have hu4 : Hid (DownI (swp q' i A) N A) := down_step hup.out (by rw [HLEN.out]; omega) hJ hJ0 hJp.out hmin.out HB2.out
          have qa4 : QAt pv Z w4 p (swp q' i A) := ⟨⟨g, c, by rw [hl4]; exact bp4, by rw [hl4]; exact HQ4.out, zg⟩, zp⟩
          have kz4 : KeepsZ Z w w4 := (hqa.out _ k3).2.trans (KeepsZ.of k4 (fun k hk => by rw [List.mem_singleton.1 hk]; exact zg))
          have hiJ : i < A := by have := HA.out; have := HB.out; omega
          clear rq4 k4 bp4 hl4
          go_wp2_with fail
          go_roundw
          case rel => exact ⟨A, swp q' i A, rfl, by omega, hp4, hlast4, hu4, qa4, kz4⟩
          case measure => simp [intOf]; omega


end Go.Proofs.YtogengangfohfaaGreat
