/-
  Walks over the reference of numbers: Get, Number, Bytes.
-/
import Derived.Test.YtcmagccfagijlaaGreatQ29
namespace Go.Proofs.YtcmagccfagijlaaGreat
set_option linter.unusedVariables false
set_option linter.unusedSimpArgs false
set_option linter.unusedSectionVars false
open Go.RowKit

/-- The number that j bytes say. -/
def valV (B : List Int) : Nat → Nat → Nat
  | _, 0 => 0
  | a, j + 1 => (byteX B a).toNat % 128 + 128 * valV B (a + 1) j
theorem valV_lt (B : List Int) : ∀ j a, valV B a j < 2 ^ (7 * j)
  | 0, _ => by simp [valV]
  | j + 1, a => by
    have := valV_lt B j (a + 1)
    rw [show 7 * (j + 1) = 7 * j + 7 by omega, Nat.pow_add]
    unfold valV
    omega
theorem valV_snoc (B : List Int) : ∀ j a, valV B a (j + 1) = valV B a j + (byteX B (a + j)).toNat % 128 * 2 ^ (7 * j)
  | 0, a => by simp [valV]
  | j + 1, a => by
    have := valV_snoc B j (a + 1)
    rw [valV, this, valV, show 7 * (j + 1) = 7 + 7 * j by omega, Nat.pow_add, show a + 1 + j = a + (j + 1) by omega, show (2 : Nat) ^ 7 = 128 by decide]
    rw [Nat.mul_add, ← Nat.add_assoc, Nat.mul_left_comm]

theorem varR_succ (B : List Int) (f i a k : Nat) : varR B (f + 1) i a k = if k < B.length then
      if 128 ≤ byteX B k then varR B f (i + 1) (a + (byteX B k).toNat % 128 * 2 ^ (7 * i)) (k + 1)
      else if byteX B k = 0 ∧ 0 < i then (0, 5, k + 1)
      else if 4611686018427387903 < a + (byteX B k).toNat % 128 * 2 ^ (7 * i) then (0, 18, k + 1)
      else (a + (byteX B k).toNat % 128 * 2 ^ (7 * i), 0, k + 1)
    else (0, 3, k) := rfl
theorem varR_run (B : List Int) (k : Nat) : ∀ j, j ≤ 9 → (∀ i, i < j → k + i < B.length ∧ 128 ≤ byteX B (k + i)) → varR B 9 0 0 k = varR B (9 - j) j (valV B k j) (k + j)
  | 0, _, _ => rfl
  | j + 1, hj, h => by
    rw [varR_run B k j (by omega) (fun i hi => h i (by omega))]
    obtain ⟨h1, h2⟩ := h j (by omega)
    rw [show 9 - j = (9 - (j + 1)) + 1 by omega, varR_succ B (9 - (j + 1)) j, if_pos h1, if_pos h2, valV_snoc]
    rfl
theorem varEnd_18a {B : List Int} {k : Nat} (h : ∀ i, i < 9 → k + i < B.length ∧ 128 ≤ byteX B (k + i)) : varX B k = 0 ∧ varE B k = 18 ∧ varK B k = k := by
  have := varR_run B k 9 (Nat.le_refl _) h
  have e : varR B 9 0 0 k = (0, 18, k + 9) := this
  unfold varK varX varE
  rw [e]
  exact ⟨rfl, rfl, rfl⟩
theorem varEnd_3 {B : List Int} {k j : Nat} (hj : j < 9) (h : ∀ i, i < j → k + i < B.length ∧ 128 ≤ byteX B (k + i)) (h1 : B.length ≤ k + j) : varX B k = 0 ∧ varE B k = 3 ∧ varK B k = k := by
  have e := varR_run B k j (by omega) h
  rw [show 9 - j = (8 - j) + 1 by omega, varR_succ B (8 - j) j, if_neg (by omega)] at e
  unfold varK varX varE
  rw [e]
  exact ⟨rfl, rfl, rfl⟩
theorem varEnd_5 {B : List Int} {k j : Nat} (hj : j < 9) (h : ∀ i, i < j → k + i < B.length ∧ 128 ≤ byteX B (k + i)) (h1 : k + j < B.length) (h2 : byteX B (k + j) = 0) (h0 : 0 < j) : varX B k = 0 ∧ varE B k = 5 ∧ varK B k = k := by
  have e := varR_run B k j (by omega) h
  rw [show 9 - j = (8 - j) + 1 by omega, varR_succ B (8 - j) j, if_pos h1, if_neg (by omega), if_pos ⟨h2, h0⟩] at e
  unfold varK varX varE
  rw [e]
  exact ⟨rfl, rfl, rfl⟩
theorem varEnd_18b {B : List Int} {k j : Nat} (hj : j < 9) (h : ∀ i, i < j → k + i < B.length ∧ 128 ≤ byteX B (k + i)) (h1 : k + j < B.length) (h2 : byteX B (k + j) < 128) (h0 : ¬ (byteX B (k + j) = 0 ∧ 0 < j)) (hb : 4611686018427387903 < valV B k (j + 1)) : varX B k = 0 ∧ varE B k = 18 ∧ varK B k = k := by
  have e := varR_run B k j (by omega) h
  rw [show 9 - j = (8 - j) + 1 by omega, varR_succ B (8 - j) j, if_pos h1, if_neg (by omega), if_neg h0, ← valV_snoc, if_pos hb] at e
  unfold varK varX varE
  rw [e]
  exact ⟨rfl, rfl, rfl⟩
theorem varEnd_ok {B : List Int} {k j : Nat} (hj : j < 9) (h : ∀ i, i < j → k + i < B.length ∧ 128 ≤ byteX B (k + i)) (h1 : k + j < B.length) (h2 : byteX B (k + j) < 128) (h0 : ¬ (byteX B (k + j) = 0 ∧ 0 < j)) (hb : ¬ 4611686018427387903 < valV B k (j + 1)) : varX B k = valV B k (j + 1) ∧ varE B k = 0 ∧ varK B k = k + j + 1 := by
  have e := varR_run B k j (by omega) h
  rw [show 9 - j = (8 - j) + 1 by omega, varR_succ B (8 - j) j, if_pos h1, if_neg (by omega), if_neg h0, ← valV_snoc, if_neg hb] at e
  unfold varK varX varE
  rw [e]
  exact ⟨rfl, rfl, rfl⟩

theorem byteX_some {B : List Int} {k : Nat} {x : Int} (h : B[k]? = some x) : byteX B k = x := by unfold byteX; rw [h]; rfl

set_option maxRecDepth 100000 in
set_option maxHeartbeats 4000000 in
theorem rvget_any (k : Nat) (v : Value) (B : List Int) (w : World) (hv : RdI .u8 w v B) (hl : B.length ≤ 1000000) (hb : ∀ x ∈ B, 0 ≤ x ∧ x ≤ 255) (hk : k ≤ B.length) :
    Calls Tryz.prog 106 #[v, .int .i64 (k : Int)] w fun e w' => e = .returned (.tuple #[.int .u64 (varX B k : Nat), .int .i64 (varK B k : Nat), .int .i64 (varE B k)]) ∧ Keeps w w' [] := by
  obtain ⟨A0, n, cp, rfl, hn, -⟩ := hv.form
  have HV := Lib.hid hv
  have HB := Lib.hid hb
  have HNL := Lib.hid hn
  have hcap := hv.cap
  have h18 := Lib.hid (fun h => varEnd_18a (B := B) (k := k) h)
  have h3 := Lib.hid (fun j hj h h1 => varEnd_3 (B := B) (k := k) (j := j) hj h h1)
  have h5 := Lib.hid (fun j hj h h1 h2 h0 => varEnd_5 (B := B) (k := k) (j := j) hj h h1 h2 h0)
  have h18b := Lib.hid (fun j hj h h1 h2 h0 hb => varEnd_18b (B := B) (k := k) (j := j) hj h h1 h2 h0 hb)
  have hok := Lib.hid (fun j hj h h1 h2 h0 hb => varEnd_ok (B := B) (k := k) (j := j) hj h h1 h2 h0 hb)
  obtain ⟨X, hX⟩ : ∃ X, varX B k = X := ⟨_, rfl⟩
  obtain ⟨K, hK⟩ : ∃ K, varK B k = K := ⟨_, rfl⟩
  obtain ⟨E, hE⟩ : ∃ E, varE B k = E := ⟨_, rfl⟩
  rw [hX, hK, hE] at h18 h3 h5 h18b hok ⊢
  have hn6 : n ≤ 1000000 := by omega
  have hkn : k ≤ n := by omega
  clear hv hb hn hl hk hX hK hE
  go_enter Tryz.func106, Tryz.ntmps106
  go_wp2_with fail
  go_loopw [7] (fun s7 wr => ∃ j : Nat, s7 = .int .i64 (j : Int) ∧ j ≤ 9 ∧ Keeps w wr [] ∧ Hid (∀ i, i < j → k + i < B.length ∧ 128 ≤ byteX B (k + i))) (fun s7 _ => 9 - (intOf s7).toNat)
  case atStart => exact ⟨0, rfl, by omega, Keeps.refl _ _, Lib.hid (fun i h => by omega)⟩
  case round =>
    obtain ⟨j, rfl, hj, kk, hrun⟩ := hrel
    by_cases hj9 : j = 9
    · obtain ⟨e1, e2, e3⟩ := h18.out (fun i hi => hrun.out i (by omega))
      have HE := Lib.hid (And.intro e1 (And.intro e2 e3))
      have hjI : decide ((j : Int) < 9) = false := decide_eq_false (by omega)
      have hjN : decide (j < 9) = false := decide_eq_false (by omega)
      have hj9I : ((j : Int) == 9) = true := by simp; omega
      have hj9N : (j == 9) = true := by simp; omega
      clear e1 e2 e3
      go_wp2_with fail
      obtain ⟨e1, e2, e3⟩ := HE.out
      rw [e1, e2, e3]
      exact bodyPost_ret (v := .tuple #[.int .u64 0, .int .i64 (k : Int), .int .i64 18]) (by simp only [results, Tryz.results106]; go_simp) rfl ⟨rfl, kk⟩
    · have hjI : (j : Int) < 9 := by omega
      have hj9I : ((j : Int) == 9) = false := by simp; omega
      have hj9N : (j == 9) = false := by simp; omega
      by_cases hin : k + j < n
      · obtain ⟨x, hx⟩ : ∃ x, B[k + j]? = some x := ⟨_, List.getElem?_eq_getElem (by have := HNL.out; omega)⟩
        obtain ⟨b0, o, rfl, hbb, hc⟩ := HV.out.at hx
        have hc' := (kk.cell (p := ⟨b0, o + (k + j), none⟩) hbb (by simp)).trans hc
        have hxb := HB.out x (List.mem_of_getElem? hx)
        have hxX := byteX_some hx
        have HX := Lib.hid hxX
        have hkj : (k : Int) + (j : Int) < (n : Int) := by omega
        have hwkj : wrap64 ((k : Int) + (j : Int)) = (k : Int) + (j : Int) := IntWalk.wrap64_in _ ⟨by omega, by omega⟩
        have hwkj2 : IntKind.i64.wrap ((k : Int) + (j : Int)) = (k : Int) + (j : Int) := IntWalk.i64_in _ ⟨by omega, by omega⟩
        have hle : decide ((n : Int) ≤ (k : Int) + (j : Int)) = false := decide_eq_false (by omega)
        have hleN : decide (n ≤ k + j) = false := decide_eq_false (by omega)
        clear hx hc hxX
        by_cases hx8 : 128 ≤ x
        · have NR : Hid (∀ i, i < j + 1 → k + i < B.length ∧ 128 ≤ byteX B (k + i)) := Lib.hid (fun i hi => by
            by_cases h : i < j
            · exact hrun.out i h
            · obtain rfl : i = j := by omega
              exact ⟨by have := HNL.out; omega, by rw [HX.out]; exact hx8⟩)
          go_wp2_with fail
          go_roundw
          case rel => exact ⟨j + 1, by go_num, by omega, kk, NR⟩
          case measure => simp [intOf]; omega
        · have hx8I : decide (128 ≤ x) = false := decide_eq_false hx8
          by_cases h50 : x = 0 ∧ 0 < j
          · obtain ⟨e1, e2, e3⟩ := h5.out j (by omega) hrun.out (by have := HNL.out; omega) (by rw [HX.out]; exact h50.1) h50.2
            have HE := Lib.hid (And.intro e1 (And.intro e2 e3))
            have hj0 : (0 : Int) < (j : Int) := by omega
            obtain ⟨rfl, hj0N⟩ := h50
            clear e1 e2 e3
            go_wp2_with fail
            obtain ⟨e1, e2, e3⟩ := HE.out
            rw [e1, e2, e3]
            exact bodyPost_ret (v := .tuple #[.int .u64 0, .int .i64 (k : Int), .int .i64 5]) (by simp only [results, Tryz.results106]; go_simp) rfl ⟨rfl, kk⟩
          · skip
            by_cases hj0 : 0 < j
            · have hj0I : (0 : Int) < (j : Int) := by omega
              have hx0 : (x == 0) = false := by
                have : x ≠ 0 := fun h => h50 ⟨h, hj0⟩
                simpa using this
              go_wp2_with fail
              go_loopw [8, 9] (fun s8 s9 wr => ∃ t : Nat, t ≤ j + 1 ∧ s9 = .int .i64 ((t : Int) - 1) ∧ s8 = .int .u64 (valV B (k + t) (j + 1 - t) : Nat) ∧ Keeps w wr []) (fun _ s9 _ => (intOf s9 + 1).toNat)
              case atStart => exact ⟨j + 1, by omega, by rw [show (((j + 1 : Nat) : Int) - 1) = (j : Int) by omega], by rw [Nat.sub_self]; rfl, kk⟩
              case round =>
                obtain ⟨t, ht, rfl, rfl, kk2⟩ := hrel
                by_cases ht0 : 0 < t
                · obtain ⟨q, rfl⟩ : ∃ q, t = q + 1 := ⟨t - 1, by omega⟩
                  rw [show (((q + 1 : Nat) : Int) - 1) = (q : Int) by omega]
                  have hq9 : q ≤ 8 := by omega
                  obtain ⟨y, hy⟩ : ∃ y, B[k + q]? = some y := ⟨_, List.getElem?_eq_getElem (by have := HNL.out; omega)⟩
                  obtain ⟨b1, o1, he, hbb1, hcy⟩ := HV.out.at hy
                  cases he
                  have hcy' := (kk2.cell (p := ⟨b0, o + (k + q), none⟩) hbb1 (by simp)).trans hcy
                  have hyb := HB.out y (List.mem_of_getElem? hy)
                  have hyX := byteX_some hy
                  have HVV : Hid (valV B (k + q) (j + 1 - q) = y.toNat % 128 + 128 * valV B (k + (q + 1)) (j + 1 - (q + 1))) := Lib.hid (by
                    rw [show j + 1 - q = (j + 1 - (q + 1)) + 1 by omega, valV, hyX]
                    rfl)
                  have hml := valV_lt B (j + 1 - (q + 1)) (k + (q + 1))
                  have hm8 : 2 ^ (7 * (j + 1 - (q + 1))) ≤ 2 ^ 56 := Nat.pow_le_pow_right (by decide) (by omega)
                  rw [show (2 : Nat) ^ 56 = 72057594037927936 by decide] at hm8
                  obtain ⟨M, hM⟩ : ∃ M, valV B (k + (q + 1)) (j + 1 - (q + 1)) = M := ⟨_, rfl⟩
                  rw [hM] at hml HVV ⊢
                  obtain ⟨MI, hMI⟩ : ∃ D : Int, ((M : Nat) : Int) = D := ⟨_, rfl⟩
                  have hM0 : 0 ≤ MI := by omega
                  have hM9 : MI < 72057594037927936 := by omega
                  rw [hMI]
                  have hkq : (k : Int) + (q : Int) < (n : Int) := by omega
                  obtain ⟨A, hA⟩ : ∃ A : Int, 128 * MI = A := ⟨_, rfl⟩
                  have hA1 : IntKind.u64.wrap A = A := by simp [IntKind.wrap, IntKind.signed, IntKind.bits]; omega
                  obtain ⟨Y, hY⟩ : ∃ Y : Int, y % 128 = Y := ⟨_, rfl⟩
                  have hY1 : IntKind.u64.wrap Y = Y := by simp [IntKind.wrap, IntKind.signed, IntKind.bits]; omega
                  have hY2 : IntKind.u8.wrap Y = Y := by simp [IntKind.wrap, IntKind.signed, IntKind.bits]; omega
                  have hym : y.tmod 128 = Y := by rw [← hY, Int.tmod_eq_emod_of_nonneg hyb.1]
                  obtain ⟨Z, hZ⟩ : ∃ Z : Int, A + Y = Z := ⟨_, rfl⟩
                  have hZ1 : IntKind.u64.wrap Z = Z := by simp [IntKind.wrap, IntKind.signed, IntKind.bits]; omega
                  have HZ : Hid (Z = ((y.toNat % 128 + 128 * M : Nat) : Int)) := Lib.hid (by omega)
                  clear hy hcy hyX hml hm8 hM hMI
                  go_wp2_with fail
                  go_roundw
                  case rel => exact ⟨q, by omega, by go_num, by rw [HVV.out, ← HZ.out], kk2⟩
                  case measure => simp only [intOf]; omega
                · obtain rfl : t = 0 := by omega
                  obtain ⟨Z, hZ⟩ : ∃ Z : Int, (((0 : Nat) : Int) - 1) = Z := ⟨_, rfl⟩
                  have hZ0 : decide (0 ≤ Z) = false := decide_eq_false (by omega)
                  obtain ⟨M, hM⟩ : ∃ M, valV B k (j + 1) = M := ⟨_, rfl⟩
                  rw [hZ, show valV B (k + 0) (j + 1 - 0) = M from hM]
                  by_cases hbig : 4611686018427387903 < M
                  · obtain ⟨e1, e2, e3⟩ := h18b.out j (by omega) hrun.out (by have := HNL.out; omega) (by rw [HX.out]; omega) (by rw [HX.out]; exact h50) (by rw [hM]; exact hbig)
                    have HE := Lib.hid (And.intro e1 (And.intro e2 e3))
                    have hbigI : (4611686018427387903 : Int) < (M : Int) := by omega
                    clear e1 e2 e3 hZ hM
                    go_wp2_with fail
                    obtain ⟨e1, e2, e3⟩ := HE.out
                    rw [e1, e2, e3]
                    exact bodyPost_ret (v := .tuple #[.int .u64 0, .int .i64 (k : Int), .int .i64 18]) (by simp only [results, Tryz.results106]; go_simp) rfl ⟨rfl, kk2⟩
                  · obtain ⟨e1, e2, e3⟩ := hok.out j (by omega) hrun.out (by have := HNL.out; omega) (by rw [HX.out]; omega) (by rw [HX.out]; exact h50) (by rw [hM]; exact hbig)
                    rw [hM] at e1
                    have HE := Lib.hid (And.intro e1 (And.intro e2 e3))
                    have hbigI : decide ((4611686018427387903 : Int) < (M : Int)) = false := decide_eq_false (by omega)
                    have hbigN : decide (4611686018427387903 < M) = false := decide_eq_false hbig
                    obtain ⟨S1, hS1⟩ : ∃ S : Int, (k : Int) + (j : Int) + 1 = S := ⟨_, rfl⟩
                    have hwS : wrap64 S1 = S1 := IntWalk.wrap64_in _ ⟨by omega, by omega⟩
                    have HS := Lib.hid (show ((k + j + 1 : Nat) : Int) = S1 by omega)
                    clear e1 e2 e3 hZ hM
                    go_wp2_with fail
                    obtain ⟨e1, e2, e3⟩ := HE.out
                    rw [e1, e2, e3, HS.out]
                    exact bodyPost_ret (v := .tuple #[.int .u64 (M : Int), .int .i64 S1, .int .i64 0]) (by simp only [results, Tryz.results106]; go_simp) rfl ⟨rfl, kk2⟩
            · have hj0I : decide ((0 : Int) < (j : Int)) = false := decide_eq_false (by omega)
              have hj0N : decide (0 < j) = false := decide_eq_false (by omega)
              go_wp2_with fail
              go_loopw [8, 9] (fun s8 s9 wr => ∃ t : Nat, t ≤ j + 1 ∧ s9 = .int .i64 ((t : Int) - 1) ∧ s8 = .int .u64 (valV B (k + t) (j + 1 - t) : Nat) ∧ Keeps w wr []) (fun _ s9 _ => (intOf s9 + 1).toNat)
              case atStart => exact ⟨j + 1, by omega, by rw [show (((j + 1 : Nat) : Int) - 1) = (j : Int) by omega], by rw [Nat.sub_self]; rfl, kk⟩
              case round =>
                obtain ⟨t, ht, rfl, rfl, kk2⟩ := hrel
                by_cases ht0 : 0 < t
                · obtain ⟨q, rfl⟩ : ∃ q, t = q + 1 := ⟨t - 1, by omega⟩
                  rw [show (((q + 1 : Nat) : Int) - 1) = (q : Int) by omega]
                  have hq9 : q ≤ 8 := by omega
                  obtain ⟨y, hy⟩ : ∃ y, B[k + q]? = some y := ⟨_, List.getElem?_eq_getElem (by have := HNL.out; omega)⟩
                  obtain ⟨b1, o1, he, hbb1, hcy⟩ := HV.out.at hy
                  cases he
                  have hcy' := (kk2.cell (p := ⟨b0, o + (k + q), none⟩) hbb1 (by simp)).trans hcy
                  have hyb := HB.out y (List.mem_of_getElem? hy)
                  have hyX := byteX_some hy
                  have HVV : Hid (valV B (k + q) (j + 1 - q) = y.toNat % 128 + 128 * valV B (k + (q + 1)) (j + 1 - (q + 1))) := Lib.hid (by
                    rw [show j + 1 - q = (j + 1 - (q + 1)) + 1 by omega, valV, hyX]
                    rfl)
                  have hml := valV_lt B (j + 1 - (q + 1)) (k + (q + 1))
                  have hm8 : 2 ^ (7 * (j + 1 - (q + 1))) ≤ 2 ^ 56 := Nat.pow_le_pow_right (by decide) (by omega)
                  rw [show (2 : Nat) ^ 56 = 72057594037927936 by decide] at hm8
                  obtain ⟨M, hM⟩ : ∃ M, valV B (k + (q + 1)) (j + 1 - (q + 1)) = M := ⟨_, rfl⟩
                  rw [hM] at hml HVV ⊢
                  obtain ⟨MI, hMI⟩ : ∃ D : Int, ((M : Nat) : Int) = D := ⟨_, rfl⟩
                  have hM0 : 0 ≤ MI := by omega
                  have hM9 : MI < 72057594037927936 := by omega
                  rw [hMI]
                  have hkq : (k : Int) + (q : Int) < (n : Int) := by omega
                  obtain ⟨A, hA⟩ : ∃ A : Int, 128 * MI = A := ⟨_, rfl⟩
                  have hA1 : IntKind.u64.wrap A = A := by simp [IntKind.wrap, IntKind.signed, IntKind.bits]; omega
                  obtain ⟨Y, hY⟩ : ∃ Y : Int, y % 128 = Y := ⟨_, rfl⟩
                  have hY1 : IntKind.u64.wrap Y = Y := by simp [IntKind.wrap, IntKind.signed, IntKind.bits]; omega
                  have hY2 : IntKind.u8.wrap Y = Y := by simp [IntKind.wrap, IntKind.signed, IntKind.bits]; omega
                  have hym : y.tmod 128 = Y := by rw [← hY, Int.tmod_eq_emod_of_nonneg hyb.1]
                  obtain ⟨Z, hZ⟩ : ∃ Z : Int, A + Y = Z := ⟨_, rfl⟩
                  have hZ1 : IntKind.u64.wrap Z = Z := by simp [IntKind.wrap, IntKind.signed, IntKind.bits]; omega
                  have HZ : Hid (Z = ((y.toNat % 128 + 128 * M : Nat) : Int)) := Lib.hid (by omega)
                  clear hy hcy hyX hml hm8 hM hMI
                  go_wp2_with fail
                  go_roundw
                  case rel => exact ⟨q, by omega, by go_num, by rw [HVV.out, ← HZ.out], kk2⟩
                  case measure => simp only [intOf]; omega
                · obtain rfl : t = 0 := by omega
                  obtain ⟨Z, hZ⟩ : ∃ Z : Int, (((0 : Nat) : Int) - 1) = Z := ⟨_, rfl⟩
                  have hZ0 : decide (0 ≤ Z) = false := decide_eq_false (by omega)
                  obtain ⟨M, hM⟩ : ∃ M, valV B k (j + 1) = M := ⟨_, rfl⟩
                  rw [hZ, show valV B (k + 0) (j + 1 - 0) = M from hM]
                  by_cases hbig : 4611686018427387903 < M
                  · obtain ⟨e1, e2, e3⟩ := h18b.out j (by omega) hrun.out (by have := HNL.out; omega) (by rw [HX.out]; omega) (by rw [HX.out]; exact h50) (by rw [hM]; exact hbig)
                    have HE := Lib.hid (And.intro e1 (And.intro e2 e3))
                    have hbigI : (4611686018427387903 : Int) < (M : Int) := by omega
                    clear e1 e2 e3 hZ hM
                    go_wp2_with fail
                    obtain ⟨e1, e2, e3⟩ := HE.out
                    rw [e1, e2, e3]
                    exact bodyPost_ret (v := .tuple #[.int .u64 0, .int .i64 (k : Int), .int .i64 18]) (by simp only [results, Tryz.results106]; go_simp) rfl ⟨rfl, kk2⟩
                  · obtain ⟨e1, e2, e3⟩ := hok.out j (by omega) hrun.out (by have := HNL.out; omega) (by rw [HX.out]; omega) (by rw [HX.out]; exact h50) (by rw [hM]; exact hbig)
                    rw [hM] at e1
                    have HE := Lib.hid (And.intro e1 (And.intro e2 e3))
                    have hbigI : decide ((4611686018427387903 : Int) < (M : Int)) = false := decide_eq_false (by omega)
                    have hbigN : decide (4611686018427387903 < M) = false := decide_eq_false hbig
                    obtain ⟨S1, hS1⟩ : ∃ S : Int, (k : Int) + (j : Int) + 1 = S := ⟨_, rfl⟩
                    have hwS : wrap64 S1 = S1 := IntWalk.wrap64_in _ ⟨by omega, by omega⟩
                    have HS := Lib.hid (show ((k + j + 1 : Nat) : Int) = S1 by omega)
                    clear e1 e2 e3 hZ hM
                    go_wp2_with fail
                    obtain ⟨e1, e2, e3⟩ := HE.out
                    rw [e1, e2, e3, HS.out]
                    exact bodyPost_ret (v := .tuple #[.int .u64 (M : Int), .int .i64 S1, .int .i64 0]) (by simp only [results, Tryz.results106]; go_simp) rfl ⟨rfl, kk2⟩
      · obtain ⟨e1, e2, e3⟩ := h3.out j (by omega) hrun.out (by have := HNL.out; omega)
        have HE := Lib.hid (And.intro e1 (And.intro e2 e3))
        have hkj : decide ((k : Int) + (j : Int) < (n : Int)) = false := decide_eq_false (by omega)
        have hkjN : decide (k + j < n) = false := decide_eq_false (by omega)
        have hwkj : wrap64 ((k : Int) + (j : Int)) = (k : Int) + (j : Int) := IntWalk.wrap64_in _ ⟨by omega, by omega⟩
        have hwkj2 : IntKind.i64.wrap ((k : Int) + (j : Int)) = (k : Int) + (j : Int) := IntWalk.i64_in _ ⟨by omega, by omega⟩
        have hle : decide ((n : Int) ≤ (k : Int) + (j : Int)) = true := decide_eq_true (by omega)
        have hleN : decide (n ≤ k + j) = true := decide_eq_true (by omega)
        clear e1 e2 e3
        go_wp2_with fail
        obtain ⟨e1, e2, e3⟩ := HE.out
        rw [e1, e2, e3]
        exact bodyPost_ret (v := .tuple #[.int .u64 0, .int .i64 (k : Int), .int .i64 3]) (by simp only [results, Tryz.results106]; go_simp) rfl ⟨rfl, kk⟩

set_option maxRecDepth 100000 in
set_option maxHeartbeats 2000000 in
theorem rvnumber_any (k M : Nat) (v : Value) (B : List Int) (w : World) (hv : RdI .u8 w v B) (hl : B.length ≤ 1000000) (hb : ∀ x ∈ B, 0 ≤ x ∧ x ≤ 255) (hk : k ≤ B.length) (hM : M < 4611686018427387904) :
    Calls Tryz.prog 54 #[v, .int .i64 (k : Int), .int .i64 (M : Int)] w fun e w' => e = .returned (.tuple #[.int .i64 (numX B k M : Nat), .int .i64 (numK B k M : Nat), .int .i64 (numE B k M)]) ∧ Keeps w w' [] := by
  have HG := Lib.hid (rvget_any k v B w hv hl hb hk)
  obtain ⟨A0, n, cp, rfl, -, -⟩ := hv.form
  have hX := varX_lt hk
  have HXX : Hid (numX B k M = if numE B k M = 0 then varX B k else 0) := rfl
  have HKK : Hid (numK B k M = if numE B k M = 0 then varK B k else k) := rfl
  have HEE : Hid (numE B k M = if varE B k = 0 ∧ M < varX B k then 18 else varE B k) := rfl
  obtain ⟨X, hX'⟩ : ∃ X, varX B k = X := ⟨_, rfl⟩
  obtain ⟨K, hK'⟩ : ∃ K, varK B k = K := ⟨_, rfl⟩
  obtain ⟨E, hE'⟩ : ∃ E, varE B k = E := ⟨_, rfl⟩
  rw [hX', hK', hE'] at HG
  rw [hX'] at HXX HEE hX
  rw [hK'] at HKK
  rw [hE'] at HEE
  clear hX' hK' hE' hv hl hb hk
  obtain ⟨RX, hRX⟩ : ∃ R, numX B k M = R := ⟨_, rfl⟩
  obtain ⟨RK, hRK⟩ : ∃ R, numK B k M = R := ⟨_, rfl⟩
  obtain ⟨RE, hRE⟩ : ∃ R, numE B k M = R := ⟨_, rfl⟩
  rw [hRX, hRE] at HXX
  rw [hRK, hRE] at HKK
  rw [hRE] at HEE
  rw [hRX, hRK, hRE]
  clear hRX hRK hRE
  have hmm : (M : Int) % 18446744073709551616 = (M : Int) := by omega
  have hM0 : decide ((M : Int) < 0) = false := decide_eq_false (by omega)
  by_cases hE : E = 0
  · subst hE
    by_cases hbig : M < X
    · have he := HEE.out
      rw [if_pos ⟨rfl, hbig⟩] at he
      subst he
      have hx := HXX.out
      have hk := HKK.out
      rw [if_neg (by decide)] at hx hk
      subst hx
      have HRK := Lib.hid hk
      have hbigI : (M : Int) < (X : Int) := by omega
      have hX0 : (0 : Int) < (X : Int) := by omega
      clear hk HXX HKK HEE
      go_enter Tryz.func54, Tryz.ntmps54
      go_wp2_with (go_at_call 106; go_loud (refine HG.out.mono ?_; rintro e w1 ⟨rfl, k1⟩))
      rw [HRK.out]
      exact bodyPost_ret (v := .tuple #[.int .i64 0, .int .i64 (k : Int), .int .i64 18]) (by simp only [results, Tryz.results54]; go_simp) rfl ⟨rfl, k1⟩
    · have he := HEE.out
      rw [if_neg (fun h => hbig h.2)] at he
      subst he
      have hx := HXX.out
      have hk := HKK.out
      rw [if_pos rfl] at hx hk
      subst hx hk
      have hbigI : decide ((M : Int) < (RX : Int)) = false := decide_eq_false (by omega)
      have hbigN : decide (M < RX) = false := decide_eq_false hbig
      have hwx : wrap64 (RX : Int) = (RX : Int) := IntWalk.wrap64_in _ ⟨by omega, by omega⟩
      clear HXX HKK HEE
      by_cases h0 : 0 < RX
      · have h0I : (0 : Int) < (RX : Int) := by omega
        go_enter Tryz.func54, Tryz.ntmps54
        go_wp2_with (go_at_call 106; go_loud (refine HG.out.mono ?_; rintro e w1 ⟨rfl, k1⟩))
        exact bodyPost_ret (v := .tuple #[.int .i64 (RX : Int), .int .i64 (RK : Int), .int .i64 0]) (by simp only [results, Tryz.results54]; go_simp) rfl ⟨rfl, k1⟩
      · have h0I : decide ((0 : Int) < (RX : Int)) = false := decide_eq_false (by omega)
        have h0N : decide (0 < RX) = false := decide_eq_false (by omega)
        go_enter Tryz.func54, Tryz.ntmps54
        go_wp2_with (go_at_call 106; go_loud (refine HG.out.mono ?_; rintro e w1 ⟨rfl, k1⟩))
        exact bodyPost_ret (v := .tuple #[.int .i64 (RX : Int), .int .i64 (RK : Int), .int .i64 0]) (by simp only [results, Tryz.results54]; go_simp) rfl ⟨rfl, k1⟩
  · have hE0 : (E == 0) = false := by simpa using hE
    have hE1 : (E != 0) = true := by simpa using hE
    have he := HEE.out
    rw [if_neg (fun h => hE h.1)] at he
    subst he
    have hx := HXX.out
    have hk := HKK.out
    rw [if_neg hE] at hx hk
    subst hx
    have HRK := Lib.hid hk
    clear hk HXX HKK HEE
    go_enter Tryz.func54, Tryz.ntmps54
    go_wp2_with (go_at_call 106; go_loud (refine HG.out.mono ?_; rintro e w1 ⟨rfl, k1⟩))
    rw [HRK.out]
    exact bodyPost_ret (v := .tuple #[.int .i64 0, .int .i64 (k : Int), .int .i64 RE]) (by simp only [results, Tryz.results54]; go_simp) rfl ⟨rfl, k1⟩

/-- How the reference's Bytes ends. -/
def RByEnd (w : World) (B : List Int) (k : Nat) (m : Int) (e : Ending) (w' : World) : Prop :=
  ∃ r, e = .returned (.tuple #[r, .int .i64 (bytesK B k m : Nat), .int .i64 (bytesE B k m)]) ∧ RdI .u8 w' r (bytesX B k m) ∧ Keeps w w' []

set_option maxRecDepth 100000 in
set_option maxHeartbeats 2000000 in
theorem rvbytes_any (k m : Nat) (v : Value) (B : List Int) (w : World) (hv : RdI .u8 w v B) (hl : B.length ≤ 1000000) (hk : k ≤ B.length) (hm : m ≤ 1000000000) :
    Calls Tryz.prog 55 #[v, .int .i64 (k : Int), .int .i64 (m : Int)] w (RByEnd w B k (m : Int)) := by
  obtain ⟨A0, n, cp, rfl, hn, -⟩ := hv.form
  have hm0 : decide ((m : Int) < 0) = false := decide_eq_false (by omega)
  have hw1 : wrap64 ((n : Int) - (k : Int)) = (n : Int) - (k : Int) := IntWalk.wrap64_in _ ⟨by omega, by omega⟩
  have hw2 : wrap64 ((k : Int) + (m : Int)) = (k : Int) + (m : Int) := IntWalk.wrap64_in _ ⟨by omega, by omega⟩
  obtain ⟨D, hD⟩ : ∃ D : Int, (n : Int) - (k : Int) = D := ⟨_, rfl⟩
  rw [hD] at hw1
  by_cases hE : k + m ≤ n
  · have hE0 : bytesE B k (m : Int) = 0 := by unfold bytesE; rw [if_neg (by omega), if_neg (by omega)]
    have hX : bytesX B k (m : Int) = (B.drop k).take m := by unfold bytesX; rw [if_pos hE0, Int.toNat_natCast]
    have hK : bytesK B k (m : Int) = k + m := by unfold bytesK; rw [if_pos hE0, Int.toNat_natCast]
    obtain ⟨r, hr0, rr, -⟩ := slice_part hv (i := k) (j := k + m) (by omega) (by omega)
    rw [Nat.add_sub_cancel_left] at rr
    have hr : ∀ w, (Instr.slice 22 (.slice A0 n cp) (some (.int .i64 (k : Int))) (some (.int .i64 ((k : Int) + (m : Int)))) none).run Tryz.prog w = .ok r w := fun w => by
      have := hr0 w
      rwa [Int.natCast_add] at this
    have hdm : decide (D < (m : Int)) = false := decide_eq_false (by omega)
    have RR := Lib.hid rr
    have HF := Lib.hid (show _ ∧ _ ∧ _ from ⟨hE0, hX, hK⟩)
    clear hE0 hX hK rr hr0 hv hn hE
    go_enter Tryz.func55, Tryz.ntmps55
    go_wp2_with fail
    obtain ⟨hE0, hX, hK⟩ := HF.out
    exact bodyPost_ret (v := .tuple #[r, .int .i64 ((k : Int) + (m : Int)), .int .i64 0]) (by simp only [results, Tryz.results55]; go_simp) rfl ⟨r, by rw [hE0, hK, Int.natCast_add], by rw [hX]; exact RR.out, Keeps.refl _ _⟩
  · have hE0 : bytesE B k (m : Int) = 3 := by unfold bytesE; rw [if_neg (by omega), if_pos (by omega)]
    have hX : bytesX B k (m : Int) = [] := by unfold bytesX; rw [if_neg (by rw [hE0]; decide)]
    have hK : bytesK B k (m : Int) = k := by unfold bytesK; rw [if_neg (by rw [hE0]; decide)]
    have hdm : D < (m : Int) := by omega
    have HF := Lib.hid (show _ ∧ _ ∧ _ from ⟨hE0, hX, hK⟩)
    clear hE0 hX hK hv hn hE
    go_enter Tryz.func55, Tryz.ntmps55
    go_wp2_with fail
    obtain ⟨hE0, hX, hK⟩ := HF.out
    exact bodyPost_ret (v := .tuple #[.slice none 0 0, .int .i64 (k : Int), .int .i64 3]) (by simp only [results, Tryz.results55]; go_simp) rfl ⟨_, by rw [hE0, hK], by rw [hX]; exact .nil, Keeps.refl _ _⟩


end Go.Proofs.YtcmagccfagijlaaGreat
