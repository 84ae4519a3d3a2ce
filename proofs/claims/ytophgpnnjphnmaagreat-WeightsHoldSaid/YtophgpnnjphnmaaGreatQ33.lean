/-
  Walks over package states: none, of, state, Log, Lowest, Predecessor. (Printed by mkZg.py.)
-/
import Derived.Test.YtophgpnnjphnmaaGreatQ32
namespace Go.Proofs.YtophgpnnjphnmaaGreat
set_option linter.unusedVariables false
set_option linter.unusedSimpArgs false
set_option linter.unusedSectionVars false
open Go.RowKit

theorem cnone_any (C g top : Nat) (norm : List Int) (w : World) (h : CodS w C g norm top) (hg : g ≤ 9) :
    Calls Tryz.prog 171 #[.pointer (some ⟨C, 0, none⟩)] w fun e w' => e = .returned (.bool false) ∧ w' = w := by
  obtain ⟨ca, cc, pb, pc, vs, h1, -⟩ := h.form
  have hS : 1 ≤ 2 ^ g := Nat.one_le_two_pow
  obtain ⟨S, hSe⟩ : ∃ S, 2 ^ g = S := ⟨_, rfl⟩
  rw [hSe] at h1 hS
  have hS0 : ((S : Int) == 0) = false := by simp; omega
  have hS0n : (S == 0) = false := by simp; omega
  have c0 := h1.cell 0
  simp at c0
  clear h h1 hSe
  go_enter Tryz.func171, Tryz.ntmps171
  go_wp2_with fail
  go_ret
  exact ⟨rfl, rfl⟩

/-- What a coder has of a symbol. -/
theorem CodS.sym {w : World} {C g top s : Nat} {norm : List Int} (h : CodS w C g norm top) (hs : s < norm.length) : ∃ (ca : Option Addr) (cc pb pc : Nat) (a : Option Addr) (n c : Nat), Blk w C #[.slice ca (2 ^ g) cc, .slice (some ⟨pb, 0, none⟩) norm.length pc] 214 ∧ norm.length ≤ pc ∧ w.cell? ⟨pb, s, none⟩ = some (.slice a n c) ∧ n = (placesOf g norm s).length ∧ RdI .i64 w (.slice a n c) (castL (placesOf g norm s)) ∧ ∀ ad, a = some ad → ad.block < top := by
  obtain ⟨ca, cc, pb, pc, vs, h1, h2, h3, h4, h5, h6, h7⟩ := h.form
  obtain ⟨a, n, c, g1, g2, g3, g4⟩ := h7 s hs
  exact ⟨ca, cc, pb, pc, a, n, c, h1, h5, h6 s _ g1, g2, g3, g4⟩
/-- A slice that reads as the places of a symbol. -/
def PlV (w : World) (g : Nat) (norm : List Int) (s top : Nat) (v : Value) : Prop := ∃ a n c, v = .slice a n c ∧ n = (placesOf g norm s).length ∧ RdI .i64 w v (castL (placesOf g norm s)) ∧ ∀ ad, a = some ad → ad.block < top

set_option maxRecDepth 100000 in
set_option maxHeartbeats 2000000 in
theorem cof_any (C g top s : Nat) (norm : List Int) (w : World) (h : CodS w C g norm top) (hs : s < norm.length) (hl : norm.length ≤ 256) (hp : 1 ≤ (placesOf g norm s).length) :
    Calls Tryz.prog 172 #[.pointer (some ⟨C, 0, none⟩), .int .i64 (s : Int)] w fun e w' => ∃ v, e = .returned (.tuple #[v, .int .i64 0]) ∧ PlV w g norm s top v ∧ w' = w := by
  obtain ⟨ca, cc, pb, pc, a, n, c, h1, h2, h3, h4, h5, h6⟩ := h.sym hs
  have c1 := h1.cell 1
  simp at c1
  have HF := Lib.hid (show PlV w g norm s top (.slice a n c) from ⟨a, n, c, rfl, h4, h5, h6⟩)
  rw [← h4] at hp
  have hn0 : ((n : Int) == 0) = false := by simp; omega
  have hn0n : (n == 0) = false := by simp; omega
  obtain ⟨m, hm⟩ : ∃ m, norm.length = m := ⟨_, rfl⟩
  rw [hm] at c1 h2 hs
  have hsm : (s : Int) < (m : Int) := by omega
  have hsm2 : decide ((m : Int) ≤ (s : Int)) = false := decide_eq_false (by omega)
  have hsm3 : decide (m ≤ s) = false := decide_eq_false (by omega)
  clear h h1 h4 h5 h6 hm hp
  go_enter Tryz.func172, Tryz.ntmps172
  go_wp2_with fail
  go_ret2
  exact ⟨_, rfl, HF.out, rfl⟩

set_option maxRecDepth 100000 in
theorem cstate_any (C g top z : Nat) (norm : List Int) (w : World) (h : CodS w C g norm top) (hg : g ≤ 9) (hz : z < 2 ^ g) :
    Calls Tryz.prog 173 #[.pointer (some ⟨C, 0, none⟩), .int .i64 (z : Int)] w fun e w' => e = .returned (.int .i64 0) ∧ w' = w := by
  have HN := Lib.hid (cnone_any C g top norm w h hg)
  obtain ⟨ca, cc, pb, pc, vs, h1, -⟩ := h.form
  obtain ⟨S, hSe⟩ : ∃ S, 2 ^ g = S := ⟨_, rfl⟩
  rw [hSe] at h1 hz
  have c0 := h1.cell 0
  simp at c0
  have hz1 : decide ((S : Int) ≤ (z : Int)) = false := decide_eq_false (by omega)
  have hz2 : decide (S ≤ z) = false := decide_eq_false (by omega)
  clear h h1 hSe
  go_enter Tryz.func173, Tryz.ntmps173
  go_wp2_with (go_at_call 171; go_loud (refine HN.out.mono ?_; rintro e w1 ⟨rfl, rfl⟩))
  go_ret
  exact ⟨rfl, rfl⟩

set_option maxRecDepth 100000 in
theorem clog_any (C g top : Nat) (norm : List Int) (w : World) (h : CodS w C g norm top) (hg : g ≤ 9) :
    Calls Tryz.prog 153 #[.pointer (some ⟨C, 0, none⟩)] w fun e w' => e = .returned (.int .i64 (g : Int)) ∧ w' = w := by
  have HN := Lib.hid (cnone_any C g top norm w h hg)
  obtain ⟨ca, cc, pb, pc, vs, h1, -⟩ := h.form
  have h9 : 2 ^ g ≤ 2 ^ 9 := Nat.pow_le_pow_right (by decide) hg
  rw [show (2 : Nat) ^ 9 = 512 by decide] at h9
  have hp : 1 ≤ 2 ^ g := Nat.one_le_two_pow
  have HL := Lib.hid (Tryz.bits_Len (((2 ^ g : Nat)) : Int) w (by omega) (by omega))
  simp only [Int.toNat_natCast] at HL
  rw [bitLen_log (by omega) (by omega), Nat.log2_two_pow] at HL
  obtain ⟨S, hSe⟩ : ∃ S, 2 ^ g = S := ⟨_, rfl⟩
  rw [hSe] at h1 HL h9
  have c0 := h1.cell 0
  simp at c0
  obtain ⟨G1, hG1⟩ : ∃ D : Int, ((g + 1 : Nat) : Int) = D := ⟨_, rfl⟩
  rw [hG1] at HL
  have hG2 : G1 - 1 = (g : Int) := by omega
  obtain ⟨G, hG⟩ : ∃ D : Int, (g : Int) = D := ⟨_, rfl⟩
  rw [hG] at hG2 ⊢
  have hwG : wrap64 G = G := IntWalk.wrap64_in _ ⟨by omega, by omega⟩
  have hwS : (S : Int) % 18446744073709551616 = (S : Int) := by omega
  clear h h1 hSe hp hG1 hG
  go_enter Tryz.func153, Tryz.ntmps153
  go_wp2_with (first
    | (go_at_call 171; go_loud (refine HN.out.mono ?_; rintro e w1 ⟨rfl, rfl⟩))
    | (go_at_call 64; go_loud (refine HL.out.mono ?_; rintro e w1 ⟨rfl, rfl⟩)))
  go_ret
  refine ⟨?_, rfl⟩
  show Ending.returned (.int .i64 (wrap64 G)) = _
  rw [hwG]

set_option maxRecDepth 100000 in
theorem clowest_any (C g top s : Nat) (norm : List Int) (w : World) (h : CodS w C g norm top) (hg : g ≤ 9) (hs : s < norm.length) (hl : norm.length ≤ 256) (hp : 1 ≤ (placesOf g norm s).length) :
    Calls Tryz.prog 150 #[.pointer (some ⟨C, 0, none⟩), .int .i64 (s : Int)] w fun e w' => e = .returned (.tuple #[.int .i64 (lowN g norm s : Nat), .int .i64 0]) ∧ w' = w := by
  have HN := Lib.hid (cnone_any C g top norm w h hg)
  have HO := Lib.hid (cof_any C g top s norm w h hs hl hp)
  have HLW : Hid ((castL (placesOf g norm s))[0]? = some ((lowN g norm s : Nat) : Int)) := Lib.hid (by
    unfold lowN castL
    rw [List.getElem?_map, List.getD_eq_getElem?_getD, List.getElem?_eq_getElem (by omega)]
    rfl)
  obtain ⟨LW, hLW⟩ : ∃ L, lowN g norm s = L := ⟨_, rfl⟩
  rw [hLW] at HLW ⊢
  clear h hs hLW
  go_enter Tryz.func150, Tryz.ntmps150
  go_wp2_with (first
    | (go_at_call 171; go_loud (refine HN.out.mono ?_; rintro e w1 ⟨rfl, rfl⟩))
    | (go_at_call 172; go_loud (refine HO.out.mono ?_; rintro e w1 ⟨v, rfl, ⟨a, n, c, rfl, hn, rd, -⟩, rfl⟩; obtain ⟨b, o, rfl, hbb, hc⟩ := rd.at HLW.out; rw [Nat.add_zero] at hc; have hcap := rd.cap; have hn1 : 0 < n := (by omega); have hn1I : (0 : Int) < (n : Int) := (by omega); clear rd hn)))
  go_ret2
  exact ⟨rfl, rfl⟩

theorem nFind_min {x m : Nat} : ∀ (f n j : Nat), n ≤ j → j < nFind f x m n → 2 * m ≤ x / 2 ^ j
  | 0, n, j, h1, h2 => by unfold nFind at h2; omega
  | f + 1, n, j, h1, h2 => by
    unfold nFind at h2
    split at h2
    · rename_i h
      by_cases hj : j = n
      · subst hj; exact h
      · exact nFind_min f (n + 1) j (by omega) h2
    · omega
theorem and_all : ∀ b : Fin 10, ∀ x : Fin 1024, bits BinOp.and IntKind.i64 ((x.val : Nat) : Int) (((2 ^ b.val : Nat) : Int) - 1) = ((x.val % 2 ^ b.val : Nat) : Int) := by decide +kernel
theorem load_step {w : World} {b : Nat} {x y z : Value} (h : Blk w b #[x, y, z] 193) : (loadVar 193 ⟨b, 0, none⟩).run Tryz.prog w = .ok (.agg #[x, y, z]) w :=
  load_blk h Tryz.underlying193 rfl (by kernel_rfl)
theorem Tryz.step_size : (Tryz.prog.info? 193).map (·.size) = some 3 := by kernel_rfl

set_option maxRecDepth 100000 in
set_option maxHeartbeats 4000000 in
theorem cpred_any (C g top z s : Nat) (norm : List Int) (w : World) (h : CodS w C g norm top) (hok : TblOk g norm) (hz : z < 2 ^ g) (hs : s < norm.length) (h0 : norm.getD s 0 ≠ 0) :
    Calls Tryz.prog 151 #[.pointer (some ⟨C, 0, none⟩), .int .i64 (z : Int), .int .i64 (s : Int)] w fun e w' =>
      e = .returned (.tuple #[.agg #[.int .i64 (predS g norm z s : Nat), .int .u64 (predV g norm z s : Nat), .int .i64 (predB g norm z s : Nat)], .int .i64 0]) ∧ Keeps w w' [] := by
  obtain ⟨p1, p2, p3, p4⟩ := predB_ok hok hs h0 hz
  have hg := hok.g9
  have k0 := (Keeps.refl w []).alloc (.cells #[.int .i64 0, .int .u64 0, .int .i64 0] 193)
  have b0 := Blk.new w #[.int .i64 0, .int .u64 0, .int .i64 0] 193
  have h' := h.keeps k0 (fun x hx => by cases hx)
  have HST := Lib.hid (cstate_any C g top z norm _ h' hg hz)
  have HO := Lib.hid (cof_any C g top s norm _ h' hs hok.len p1)
  have h9 : 2 ^ g ≤ 2 ^ 9 := Nat.pow_le_pow_right (by decide) hg
  rw [show (2 : Nat) ^ 9 = 512 by decide] at h9
  have hmin : ∀ j, j < predB g norm z s → 2 * (placesOf g norm s).length ≤ (z + 2 ^ g) / 2 ^ j := fun j hj => nFind_min 10 0 j (Nat.zero_le _) hj
  obtain ⟨N, hN⟩ : ∃ N, predB g norm z s = N := ⟨_, rfl⟩
  obtain ⟨M, hM⟩ : ∃ M, (placesOf g norm s).length = M := ⟨_, rfl⟩
  have hPS : predS g norm z s = (placesOf g norm s).getD ((z + 2 ^ g) / 2 ^ N - M) 0 := by rw [← hN, ← hM]; rfl
  have hPV : predV g norm z s = (z + 2 ^ g) % 2 ^ N := by rw [← hN]; rfl
  rw [hN, hM] at p2 p3
  rw [hN, hM] at hmin
  rw [hN] at p4 ⊢
  rw [hM] at p1
  obtain ⟨ca, cc, pb, pc, vs, hC1, -⟩ := h'.form
  obtain ⟨S, hSe⟩ : ∃ S, 2 ^ g = S := ⟨_, rfl⟩
  rw [hSe] at hz h9 hPS hPV p2 p3 hmin hC1
  obtain ⟨X, hX⟩ : ∃ X, z + S = X := ⟨_, rfl⟩
  rw [hX] at hPS hPV p2 p3 hmin
  have hX1 : X < 1024 := by omega
  have hand := and_all ⟨N, by omega⟩ ⟨X, hX1⟩
  simp only at hand
  obtain ⟨Y, hY⟩ : ∃ Y, X / 2 ^ N = Y := ⟨_, rfl⟩
  rw [hY] at p2 p3 hPS
  obtain ⟨V, hV⟩ : ∃ V, X % 2 ^ N = V := ⟨_, rfl⟩
  rw [hV] at hPV hand
  have hV1 : V ≤ X := by rw [← hV]; exact Nat.mod_le _ _
  have HPL : Hid ((castL (placesOf g norm s))[Y - M]? = some ((predS g norm z s : Nat) : Int)) := Lib.hid (by
    unfold castL
    rw [hPS, List.getElem?_map, List.getD_eq_getElem?_getD, List.getElem?_eq_getElem (by omega)]
    rfl)
  obtain ⟨PS, hPSe⟩ : ∃ P, predS g norm z s = P := ⟨_, rfl⟩
  rw [hPSe] at HPL ⊢
  rw [hPV]
  have HM := Lib.hid hM
  have c0 := hC1.cell 0
  simp at c0
  have hxI : (z : Int) + (S : Int) = (X : Int) := by omega
  have hb0l := b0.lt
  have B0 := Lib.hid b0
  have K0 := Lib.hid k0
  have htop : top ≤ w.heap.size := h.top
  have HMIN := Lib.hid hmin
  have HYE : Hid (∀ k : Nat, ((X : Int) / 2 ^ k) = ((X / 2 ^ k : Nat) : Int)) := Lib.hid (fun k => by simp)
  have HY := Lib.hid hY
  have hYX : Y ≤ X := by rw [← HY.out]; exact Nat.div_le_self _ _
  have hM5 : M ≤ 1024 := by omega
  have hN9 : N ≤ 9 := by omega
  clear h h' hok hz hs h0 k0 b0 h9 hN hM hPS hPV hSe hX hC1 hPSe hmin hY hV
  go_enter Tryz.func151, Tryz.ntmps151
  go_wp2_with (first
    | (go_at_call 173; go_loud (refine HST.out.mono ?_; rintro e w1 ⟨rfl, rfl⟩))
    | (go_at_call 172; go_loud (refine HO.out.mono ?_; rintro e w1 ⟨v, rfl, ⟨a, n, c, rfl, hn, rd, hat⟩, rfl⟩; obtain rfl : n = M := (hn.trans HM.out); have RD := Lib.hid rd; have HAT := Lib.hid hat; clear rd hn hat)))
  obtain ⟨J, hJ⟩ : ∃ J, Y - n = J := ⟨_, rfl⟩
  have HJ : Hid ((castL (placesOf g norm s))[J]? = some (PS : Int)) := Lib.hid (by rw [← hJ]; exact HPL.out)
  have HPL2 := Lib.hid (RD.out.at HJ.out)
  obtain ⟨bb, o, rfl, hbb, hcJ⟩ := HPL2.out
  have hbt := HAT.out _ rfl
  simp only at hbt
  have HLD : Hid (∀ w9, Keeps (w.alloc (.cells #[.int .i64 0, .int .u64 0, .int .i64 0] 193)) w9 [w.heap.size] → w9.cell? ⟨bb, o + J, none⟩ = some (.int .i64 (PS : Int))) := Lib.hid (fun w9 k9 => (k9.cell (p := ⟨bb, o + J, none⟩) hbb (by simp; omega)).trans hcJ)
  have hcap := RD.out.cap
  have hJn : (J : Int) < (n : Int) := by omega
  have hDJ : (Y : Int) - (n : Int) = (J : Int) := by omega
  have HSZ := Lib.hid (show (w.alloc (.cells #[.int .i64 0, .int .u64 0, .int .i64 0] 193)).heap.size = w.heap.size + 1 by simp)
  clear HPL2 hcJ hJ HPL c0
  generalize (w.alloc (.cells #[.int .i64 0, .int .u64 0, .int .i64 0] 193)) = W0 at *
  obtain ⟨M2, hM2⟩ : ∃ D : Int, 2 * (n : Int) = D := ⟨_, rfl⟩
  have hwM2 : wrap64 M2 = M2 := IntWalk.wrap64_in _ ⟨by omega, by omega⟩
  go_loopw [12] (fun s12 wr => wr = W0 ∧ ∃ k : Nat, k ≤ N ∧ s12 = .int .i64 (k : Int)) (fun s12 _ => N - (intOf s12).toNat)
  case atStart => exact ⟨rfl, 0, Nat.zero_le _, rfl⟩
  case round =>
    obtain ⟨rfl, k, hkN, rfl⟩ := hrel
    obtain ⟨DK, hDK⟩ : ∃ D : Int, (X : Int) / 2 ^ k = D := ⟨_, rfl⟩
    have hye := HYE.out k
    rw [hDK] at hye
    by_cases hlt : k < N
    · have hm := HMIN.out k hlt
      have hle : M2 ≤ DK := by omega
      clear hye hm
      go_wp2_with fail
      go_roundw
      case rel => exact ⟨trivial, k + 1, by omega, by go_num⟩
      case measure => simp [intOf]; omega
    · obtain rfl : k = N := by omega
      rw [HY.out] at hye
      have hle : decide (M2 ≤ DK) = false := decide_eq_false (by omega)
      clear hkN hlt
      go_wp2_with fail
      clear hle
      have hDY : DK = (Y : Int) := hye
      rw [hDY] at hDK
      clear hye hDY hwM2 hM2
      have h29 : 2 ^ k ≤ 2 ^ 9 := Nat.pow_le_pow_right (by decide) hN9
      rw [show (2 : Nat) ^ 9 = 512 by decide] at h29
      obtain ⟨q2, hq2⟩ : ∃ q, 2 ^ k = q := ⟨_, rfl⟩
      have hpe : ((2 : Int) ^ k) = (q2 : Int) := by rw [← hq2]; simp
      rw [hq2] at h29 hand
      obtain ⟨PW, hPW⟩ : ∃ D : Int, (q2 : Int) = D := ⟨_, rfl⟩
      rw [hPW] at hand hpe
      rw [hpe] at hDK
      have hw1 : IntKind.i64.wrap PW = PW := IntWalk.i64_in _ ⟨by omega, by omega⟩
      obtain ⟨P1, hP1⟩ : ∃ D : Int, PW - 1 = D := ⟨_, rfl⟩
      rw [hP1] at hand
      have hw2 : IntKind.i64.wrap P1 = P1 := IntWalk.i64_in _ ⟨by omega, by omega⟩
      have hw3 : IntKind.i64.wrap (J : Int) = (J : Int) := IntWalk.i64_in _ ⟨by omega, by omega⟩
      have hw4 : IntKind.u64.wrap (V : Int) = (V : Int) := by simp [IntKind.wrap, IntKind.signed, IntKind.bits]; omega
      clear h29 hPW hq2
      refine wp_region_held_drew (S := (fun w' => Keeps wr w' [w.heap.size])) (by kernel_rfl) (Keeps.refl wr [w.heap.size]).drew (fun hHeld => ?_)
      refine takeL (i := 0) (v := ?_) rfl (by kernel_rfl) (by kernel_rfl) (by kernel_rfl) (fun _ _ _ h => h) (by rfl) ?_ (by assumption) ?_
      rotate_left
      · (intro w9 hSw; clear hSw; go_simp; (try with_reducible rfl))
      try simp only [Act.put, List.setIfInBounds_toArray, List.set_cons_zero, List.set_cons_succ]
      refine takeL (i := 1) (v := ?_) rfl (by kernel_rfl) (by kernel_rfl) (by kernel_rfl) (fun _ _ _ h => h) (by rfl) ?_ (by assumption) ?_
      rotate_left
      · (intro w9 hSw; clear hSw; go_simp; (try with_reducible rfl))
      try simp only [Act.put, List.setIfInBounds_toArray, List.set_cons_zero, List.set_cons_succ]
      refine takeL (i := 2) (v := ?_) rfl (by kernel_rfl) (by kernel_rfl) (by kernel_rfl) (fun _ _ _ h => h) (by rfl) ?_ (by assumption) ?_
      rotate_left
      · (intro w9 hSw; clear hSw; go_simp; (try with_reducible rfl))
      try simp only [Act.put, List.setIfInBounds_toArray, List.set_cons_zero, List.set_cons_succ]
      refine takeL (i := 3) (v := ?_) rfl (by kernel_rfl) (by kernel_rfl) (by kernel_rfl) (fun _ _ _ h => h) (by rfl) ?_ (by assumption) ?_
      rotate_left
      · (intro w9 hSw; clear hSw; go_simp; (try with_reducible rfl))
      try simp only [Act.put, List.setIfInBounds_toArray, List.set_cons_zero, List.set_cons_succ]
      refine takeL (i := 4) (v := ?_) rfl (by kernel_rfl) (by kernel_rfl) (by kernel_rfl) (fun _ _ _ h => h) (by rfl) ?_ (by assumption) ?_
      rotate_left
      · (intro w9 hSw; clear hSw; go_simp; (try with_reducible rfl))
      try simp only [Act.put, List.setIfInBounds_toArray, List.set_cons_zero, List.set_cons_succ]
      refine takeL (i := 5) (v := ?_) rfl (by kernel_rfl) (by kernel_rfl) (by kernel_rfl) (fun _ _ _ h => h) (by rfl) ?_ (by assumption) ?_
      rotate_left
      · (intro w9 hSw; clear hSw; go_simp; (try with_reducible rfl))
      try simp only [Act.put, List.setIfInBounds_toArray, List.set_cons_zero, List.set_cons_succ]
      refine takeL (i := 6) (v := ?_) rfl (by kernel_rfl) (by kernel_rfl) (by kernel_rfl) (fun _ _ _ h => h) (by rfl) ?_ (by assumption) ?_
      rotate_left
      · (intro w9 hSw; clear hSw; go_simp; (try with_reducible rfl))
      try simp only [Act.put, List.setIfInBounds_toArray, List.set_cons_zero, List.set_cons_succ]
      refine takeL (i := 7) (v := ?_) rfl (by kernel_rfl) (by kernel_rfl) (by kernel_rfl) (fun _ _ _ h => h) (by rfl) ?_ (by assumption) ?_
      rotate_left
      · (intro w9 hSw; clear hSw; go_simp; (try with_reducible rfl))
      try simp only [Act.put, List.setIfInBounds_toArray, List.set_cons_zero, List.set_cons_succ]
      refine takeL (i := 8) (v := ?_) rfl (by kernel_rfl) (by kernel_rfl) (by kernel_rfl) (fun _ _ _ h => h) (by rfl) ?_ (by assumption) ?_
      rotate_left
      · (intro w9 hSw; have q6 := HLD.out w9 hSw; clear hSw; go_simp; (try with_reducible rfl))
      try simp only [Act.put, List.setIfInBounds_toArray, List.set_cons_zero, List.set_cons_succ]
      refine takeL (i := 9) (v := ?_) rfl (by kernel_rfl) (by kernel_rfl) (by kernel_rfl) (fun _ _ _ h => h) (by rfl) ?_ (by assumption) ?_
      rotate_left
      · (intro w9 hSw; clear hSw; go_simp; (try with_reducible rfl))
      try simp only [Act.put, List.setIfInBounds_toArray, List.set_cons_zero, List.set_cons_succ]
      refine takeL (i := 10) (v := ?_) rfl (by kernel_rfl) (by kernel_rfl) (by kernel_rfl) (fun _ _ _ h => h) (by rfl) ?_ (by assumption) ?_
      rotate_left
      · (intro w9 hSw; clear hSw; go_simp; (try with_reducible rfl))
      try simp only [Act.put, List.setIfInBounds_toArray, List.set_cons_zero, List.set_cons_succ]
      refine takeL (i := 11) (v := ?_) rfl (by kernel_rfl) (by kernel_rfl) (by kernel_rfl) (fun _ _ _ h => h) (by rfl) ?_ (by assumption) ?_
      rotate_left
      · (intro w9 hSw; clear hSw; go_simp; (try with_reducible rfl))
      try simp only [Act.put, List.setIfInBounds_toArray, List.set_cons_zero, List.set_cons_succ]
      refine takeL (i := 12) (v := ?_) rfl (by kernel_rfl) (by kernel_rfl) (by kernel_rfl) (fun _ _ _ h => h) (by rfl) ?_ (by assumption) ?_
      rotate_left
      · (intro w9 hSw; clear hSw; go_simp; (try with_reducible rfl))
      try simp only [Act.put, List.setIfInBounds_toArray, List.set_cons_zero, List.set_cons_succ]
      refine takeL (i := 13) (v := ?_) rfl (by kernel_rfl) (by kernel_rfl) (by kernel_rfl) (fun _ _ _ h => h) (by rfl) ?_ (by assumption) ?_
      rotate_left
      · (intro w9 hSw; clear hSw; go_simp; (try with_reducible rfl))
      try simp only [Act.put, List.setIfInBounds_toArray, List.set_cons_zero, List.set_cons_succ]
      refine takeL (i := 14) (v := ?_) rfl (by kernel_rfl) (by kernel_rfl) (by kernel_rfl) (fun _ _ _ h => h) (by rfl) ?_ (by assumption) ?_
      rotate_left
      · (intro w9 hSw; clear hSw; go_simp; (try with_reducible rfl))
      try simp only [Act.put, List.setIfInBounds_toArray, List.set_cons_zero, List.set_cons_succ]
      refine takeL (i := 15) (v := ?_) rfl (by kernel_rfl) (by kernel_rfl) (by kernel_rfl) (fun _ _ _ h => h) (by rfl) ?_ (by assumption) ?_
      rotate_left
      · (intro w9 hSw; clear hSw; go_simp; (try with_reducible rfl))
      try simp only [Act.put, List.setIfInBounds_toArray, List.set_cons_zero, List.set_cons_succ]
      refine takeL (i := 16) (v := ?_) rfl (by kernel_rfl) (by kernel_rfl) (by kernel_rfl) (fun _ _ _ h => h) (by rfl) ?_ (by assumption) ?_
      rotate_left
      · (intro w9 hSw; clear hSw; go_simp; (try with_reducible rfl))
      try simp only [Act.put, List.setIfInBounds_toArray, List.set_cons_zero, List.set_cons_succ]
      refine callL (i := 17) rfl (by kernel_rfl) (fun Kont hK => ?_)
      refine step_storeB rfl 193 _ _ rfl w.heap.size #[.int .i64 (PS : Int), .int .u64 (V : Int), .int .i64 (k : Int)] rfl rfl _ _ B0.out.drew Tryz.step_size rfl (by simp [Value.oneCell']) ?_
      intro W9 b9 k9
      refine hK.out _ _ ?_ (fun hHeld => ?_)
      · exact ((Keeps.refl wr [w.heap.size]).drew).trans k9 (fun j hj _ => hj)
      clear hK Kont
      refine takeL (i := 18) (v := ?_) rfl (by kernel_rfl) (by kernel_rfl) (by kernel_rfl) (fun _ _ _ h => h) (by rfl) ?_ (by assumption) ?_
      rotate_left
      · (intro w9 hSw; clear hSw; go_simp; (try with_reducible rfl))
      try simp only [Act.put, List.setIfInBounds_toArray, List.set_cons_zero, List.set_cons_succ]
      refine wpAnyH_done (by kernel_rfl) ?_ _
      go_wp2_with fail
      refine bodyPost_ret (v := .tuple #[.agg #[.int .i64 (PS : Int), .int .u64 (V : Int), .int .i64 (k : Int)], .int .i64 0]) (res_cell_tmp rfl rfl rfl (load_step b9)) rfl ⟨rfl, ?_⟩
      exact (K0.out.drew).trans k9 (fun j hj hl => by have := List.mem_singleton.1 hj; omega)


end Go.Proofs.YtophgpnnjphnmaaGreat
