/-
  Walks over package norm: all, the closures of Normalize, furthest. (Printed by mkZi.py.)
-/
import Derived.Test.YtophgpnnjphnmaaGreatQ14
import Derived.Test.YtophgpnnjphnmaaGreatQ12
namespace Go.Proofs.YtophgpnnjphnmaaGreat
set_option linter.unusedVariables false
set_option linter.unusedSimpArgs false
set_option linter.unusedSectionVars false
open Go.RowKit

theorem sumZ_append (l m : List Int) : sumZ (l ++ m) = sumZ l + sumZ m := by
  induction l with
  | nil => simp [sumZ]
  | cons x l ih => simp only [List.cons_append, sumZ, ih]; omega
theorem sumZ_take {l : List Int} {k : Nat} {x : Int} (h : l[k]? = some x) : sumZ (l.take (k + 1)) = sumZ (l.take k) + x := by
  rw [List.take_add_one, h, sumZ_append]; simp [sumZ]
theorem posN_append (l m : List Int) : posN (l ++ m) = posN l + posN m := by
  induction l with
  | nil => simp [posN]
  | cons x l ih => simp only [List.cons_append, posN, ih]; omega
theorem posN_take {l : List Int} {k : Nat} {x : Int} (h : l[k]? = some x) : posN (l.take (k + 1)) = posN (l.take k) + (if 0 < x then 1 else 0) := by
  rw [List.take_add_one, h, posN_append]; simp [posN]
theorem sumZ_nonneg {l : List Int} (h : ∀ x ∈ l, 0 ≤ x) : 0 ≤ sumZ l := by
  induction l with
  | nil => simp [sumZ]
  | cons x l ih =>
    have h1 := h x (by simp)
    have h2 := ih (fun y hy => h y (by simp [hy]))
    simp only [sumZ]; omega
theorem sumZ_prefix {l : List Int} (h : ∀ x ∈ l, 0 ≤ x) (k : Nat) : 0 ≤ sumZ (l.take k) ∧ sumZ (l.take k) ≤ sumZ l := by
  have e := sumZ_append (l.take k) (l.drop k)
  rw [List.take_append_drop] at e
  have h1 := sumZ_nonneg (l := l.drop k) (fun x hx => h x (List.mem_of_mem_drop hx))
  have h2 := sumZ_nonneg (l := l.take k) (fun x hx => h x (List.mem_of_mem_take hx))
  omega
theorem posN_bound (l : List Int) : 0 ≤ posN l ∧ posN l ≤ (l.length : Int) := by
  induction l with
  | nil => simp [posN]
  | cons x l ih => simp only [posN, List.length_cons]; split <;> omega

set_option maxRecDepth 100000 in
set_option maxHeartbeats 4000000 in
theorem nall_ok (v : Value) (l : List Int) (w : World) (hv : RdI .i64 w v l) (hl : l.length ≤ 1000000) (h0 : ∀ x ∈ l, 0 ≤ x) (hT : sumZ l ≤ 1099511627776) (hp : 0 < posN l) :
    Calls Tryz.prog 140 #[v] w fun e w' => e = .returned (.tuple #[.int .i64 (sumZ l), .int .i64 (posN l), .bool true]) ∧ Keeps w w' [] := by
  obtain ⟨A0, n, cp, rfl, hn, -⟩ := hv.form
  have HV := Lib.hid hv
  have H0 := Lib.hid h0
  have HPF := Lib.hid (fun k => sumZ_prefix h0 k)
  have HN := Lib.hid hn
  have hcap := hv.cap
  obtain ⟨T, hTe⟩ : ∃ T, sumZ l = T := ⟨_, rfl⟩
  have HT := Lib.hid hTe
  rw [hTe] at hT
  obtain ⟨U, hU⟩ : ∃ U, posN l = U := ⟨_, rfl⟩
  have HU := Lib.hid hU
  rw [hU] at hp
  rw [hTe, hU]
  have hn6 : n ≤ 1000000 := by omega
  clear hv h0 hn hl hTe hU
  go_enter Tryz.func140, Tryz.ntmps140
  go_wp2_with fail
  go_loopw [2, 3, 9] (fun s2 s3 s9 wr => ∃ (i : Nat) (X Y : Int), i ≤ n ∧ s9 = .int .i64 (i : Int) ∧ s2 = .int .i64 X ∧ s3 = .int .i64 Y ∧ Hid (X = sumZ (l.take i)) ∧ Hid (Y = posN (l.take i)) ∧ 0 ≤ X ∧ X ≤ T ∧ 0 ≤ Y ∧ Y ≤ 1000000 ∧ wr = w) (fun _ _ s9 _ => n - (intOf s9).toNat)
  case atStart => exact ⟨0, 0, 0, Nat.zero_le _, rfl, rfl, rfl, Lib.hid (by simp [sumZ]), Lib.hid (by simp [posN]), by omega, by have := HPF.out 0; simp [sumZ] at this; rw [← HT.out]; omega, by omega, by omega, rfl⟩
  case round =>
    obtain ⟨i, X, Y, hi, rfl, rfl, rfl, hX, hY, hX0, hXT, hY0, hY6, rfl⟩ := hrel
    by_cases hlt : i < n
    · have hiI : (i : Int) < (n : Int) := by omega
      obtain ⟨x, hx⟩ : ∃ x, l[i]? = some x := ⟨_, List.getElem?_eq_getElem (by have := HN.out; omega)⟩
      obtain ⟨bb, o, rfl, hbb, hc⟩ := HV.out.at hx
      have hx0 := H0.out x (List.mem_of_getElem? hx)
      have hpf := HPF.out (i + 1)
      rw [sumZ_take hx, ← hX.out, HT.out] at hpf
      have HX2 : Hid (X + x = sumZ (l.take (i + 1))) := Lib.hid (by rw [sumZ_take hx, ← hX.out])
      have HY2 : Hid (Y + (if 0 < x then 1 else 0) = posN (l.take (i + 1))) := Lib.hid (by rw [posN_take hx, ← hY.out])
      have hpb := posN_bound (l.take (i + 1))
      rw [← HY2.out, List.length_take] at hpb
      have hpb2 : Y + (if 0 < x then 1 else 0) ≤ 1000000 := by omega
      obtain ⟨D, hD⟩ : ∃ D : Int, 1099511627776 - X = D := ⟨_, rfl⟩
      have hwD : wrap64 D = D := IntWalk.wrap64_in _ ⟨by omega, by omega⟩
      have hxD : decide (D < x) = false := decide_eq_false (by omega)
      have hxn : decide (x < 0) = false := decide_eq_false (by omega)
      obtain ⟨Z, hZ⟩ : ∃ D : Int, X + x = D := ⟨_, rfl⟩
      rw [hZ] at HX2 hpf
      have hwZ : wrap64 Z = Z := IntWalk.wrap64_in _ ⟨by omega, by omega⟩
      by_cases hxp : 0 < x
      · rw [if_pos hxp] at HY2 hpb2
        obtain ⟨Y2, hY2⟩ : ∃ D : Int, Y + 1 = D := ⟨_, rfl⟩
        rw [hY2] at HY2 hpb2
        have hwY : wrap64 Y2 = Y2 := IntWalk.wrap64_in _ ⟨by omega, by omega⟩
        clear hx hpb
        go_wp2_with fail
        go_roundw
        case rel => exact ⟨i + 1, Z, Y2, by omega, by go_num, rfl, rfl, HX2, HY2, by omega, by omega, by omega, by omega, trivial⟩
        case measure => simp [intOf]; omega
      · rw [if_neg hxp, Int.add_zero] at HY2
        have hxpI : decide (0 < x) = false := decide_eq_false hxp
        clear hx hpb hpb2
        go_wp2_with fail
        go_roundw
        case rel => exact ⟨i + 1, Z, Y, by omega, by go_num, rfl, rfl, HX2, HY2, by omega, by omega, by omega, by omega, trivial⟩
        case measure => simp [intOf]; omega
    · obtain rfl : i = n := by omega
      have hii : decide ((i : Int) < (i : Int)) = false := by simp
      have hXe : X = T := by rw [hX.out, List.take_of_length_le (by have := HN.out; omega), HT.out]
      have hYe : Y = U := by rw [hY.out, List.take_of_length_le (by have := HN.out; omega), HU.out]
      subst hXe hYe
      clear hX hY
      go_wp2_with fail
      exact bodyPost_ret (v := .tuple #[.int .i64 X, .int .i64 Y, .bool true]) (by simp only [results, Tryz.results140]; go_simp) rfl ⟨rfl, Keeps.refl _ _⟩

/-! The closures. -/
set_option maxRecDepth 100000 in
theorem nz2_any (bC i : Nat) (v : Value) (C : List Int) (w : World) (hb : Blk w bC #[v] 22) (hv : RdI .i64 w v C) (hi : i < C.length) :
    Calls Tryz.prog 142 #[.int .i64 (i : Int), .pointer (some ⟨bC, 0, none⟩)] w fun e w' => e = .returned (.bool (decide (0 < C.getD i 0))) ∧ Keeps w w' [] := by
  obtain ⟨A0, n, cp, rfl, hn, -⟩ := hv.form
  obtain ⟨x, hx⟩ : ∃ x, C[i]? = some x := ⟨_, List.getElem?_eq_getElem hi⟩
  have hg : C.getD i 0 = x := by rw [List.getD_eq_getElem?_getD, hx]; rfl
  rw [hg]
  obtain ⟨bb, o, rfl, hbb, hc⟩ := hv.at hx
  have hcap := hv.cap
  obtain ⟨c0, -⟩ := hb.one
  have hiI : (i : Int) < (n : Int) := by omega
  clear hb hv hx hg hn hi
  go_enter Tryz.func142, Tryz.ntmps142
  go_wp2_with fail
  go_ret
  exact ⟨rfl, Keeps.refl _ _⟩
set_option maxRecDepth 100000 in
theorem nz3_any (bN g i n c : Nat) (N : List Int) (w : World) (hb : Blk w bN #[.slice (some ⟨g, 0, none⟩) n c] 22) (hv : RowI w g n c N) (hi : i < n) :
    Calls Tryz.prog 143 #[.int .i64 (i : Int), .pointer (some ⟨bN, 0, none⟩)] w fun e w' => e = .returned (.bool (decide (1 < N.getD i 0))) ∧ Keeps w w' [] := by
  have hl := hv.1
  obtain ⟨x, hx⟩ : ∃ x, N[i]? = some x := ⟨_, List.getElem?_eq_getElem (by omega)⟩
  have hg : N.getD i 0 = x := by rw [List.getD_eq_getElem?_getD, hx]; rfl
  rw [hg]
  have hc := hv.at hx
  have hcap := hv.cap
  obtain ⟨c0, -⟩ := hb.one
  have hiI : (i : Int) < (n : Int) := by omega
  clear hb hv hx hg hl hi
  go_enter Tryz.func143, Tryz.ntmps143
  go_wp2_with fail
  go_ret
  exact ⟨rfl, Keeps.refl _ _⟩
set_option maxRecDepth 100000 in
set_option maxHeartbeats 2000000 in
theorem nz1_any (bC bS bN bT g i n c : Nat) (v : Value) (C N : List Int) (S T : Int) (w : World) (hbC : Blk w bC #[v] 22) (hv : RdI .i64 w v C) (hbS : Blk w bS #[.int .i64 S] 3) (hbN : Blk w bN #[.slice (some ⟨g, 0, none⟩) n c] 22) (hN : RowI w g n c N) (hbT : Blk w bT #[.int .i64 T] 3)
    (hi : i < n) (hl : C.length = n) (hc : 0 ≤ C.getD i 0 ∧ C.getD i 0 ≤ 1099511627776) (hS : 0 ≤ S ∧ S ≤ 512) (hNi : 0 ≤ N.getD i 0 ∧ N.getD i 0 ≤ 1024) (hT : 0 ≤ T ∧ T ≤ 1099511627776) :
    Calls Tryz.prog 141 #[.int .i64 (i : Int), .pointer (some ⟨bC, 0, none⟩), .pointer (some ⟨bS, 0, none⟩), .pointer (some ⟨bN, 0, none⟩), .pointer (some ⟨bT, 0, none⟩)] w fun e w' => e = .returned (.int .i64 (aboveF C N S T i)) ∧ Keeps w w' [] := by
  obtain ⟨A0, m, cp, rfl, hm, -⟩ := hv.form
  obtain ⟨x, hx⟩ : ∃ x, C[i]? = some x := ⟨_, List.getElem?_eq_getElem (by omega)⟩
  have hgx : C.getD i 0 = x := by rw [List.getD_eq_getElem?_getD, hx]; rfl
  have hl2 := hN.1
  obtain ⟨y, hy⟩ : ∃ y, N[i]? = some y := ⟨_, List.getElem?_eq_getElem (by omega)⟩
  have hgy : N.getD i 0 = y := by rw [List.getD_eq_getElem?_getD, hy]; rfl
  unfold aboveF
  rw [hgx] at hc ⊢
  rw [hgy] at hNi ⊢
  obtain ⟨bb, o, rfl, hbb, hcx⟩ := hv.at hx
  have hcapC := hv.cap
  have hcy := hN.at hy
  have hcapN := hN.cap
  obtain ⟨c0, -⟩ := hbC.one
  obtain ⟨c1, -⟩ := hbS.one
  obtain ⟨c2, -⟩ := hbN.one
  obtain ⟨c3, -⟩ := hbT.one
  have hxS : 0 ≤ x * S ∧ x * S ≤ 1099511627776 * 512 := ⟨Int.mul_nonneg hc.1 hS.1, Int.mul_le_mul hc.2 hS.2 hS.1 (by decide)⟩
  have hyT : 0 ≤ y * T ∧ y * T ≤ 1024 * 1099511627776 := ⟨Int.mul_nonneg hNi.1 hT.1, Int.mul_le_mul hNi.2 hT.2 hT.1 (by decide)⟩
  obtain ⟨X1, hX1⟩ : ∃ D, x * S = D := ⟨_, rfl⟩
  obtain ⟨Y1, hY1⟩ : ∃ D, y * T = D := ⟨_, rfl⟩
  rw [hX1] at hxS ⊢
  rw [hY1] at hyT ⊢
  obtain ⟨Z1, hZ1⟩ : ∃ D, X1 - Y1 = D := ⟨_, rfl⟩
  rw [hZ1]
  have hw1 : wrap64 X1 = X1 := IntWalk.wrap64_in _ ⟨by omega, by omega⟩
  have hw2 : wrap64 Y1 = Y1 := IntWalk.wrap64_in _ ⟨by omega, by omega⟩
  have hw3 : wrap64 Z1 = Z1 := IntWalk.wrap64_in _ ⟨by omega, by omega⟩
  have hv1 : IntKind.i64.wrap X1 = X1 := IntWalk.i64_in _ ⟨by omega, by omega⟩
  have hv2 : IntKind.i64.wrap Y1 = Y1 := IntWalk.i64_in _ ⟨by omega, by omega⟩
  have hv3 : IntKind.i64.wrap Z1 = Z1 := IntWalk.i64_in _ ⟨by omega, by omega⟩
  have hiI : (i : Int) < (m : Int) := by omega
  have hiI2 : (i : Int) < (n : Int) := by omega
  clear hbC hv hbS hbN hN hbT hx hy hgx hgy hl hl2 hm hi hc hS hNi hT hxS hyT
  go_enter Tryz.func141, Tryz.ntmps141
  go_wp2_with fail
  go_quiet (fail)
  go_wp2_with fail
  go_ret
  exact ⟨by first | rfl | rw [hw3], (Keeps.refl w []).drewN _⟩

set_option maxRecDepth 100000 in
set_option maxHeartbeats 4000000 in
theorem nfur_up (bC bN bS bT n c : Nat) (a : Option Addr) (am : Nat → Bool) (vf : Nat → Int) (w : World) (hn : n ≤ 1000000)
    (hA : ∀ i W, Keeps w W [] → i < n → Calls Tryz.prog 142 #[.int .i64 (i : Int), .pointer (some ⟨bC, 0, none⟩)] W fun e w' => e = .returned (.bool (am i)) ∧ Keeps W w' [])
    (hO : ∀ i W, Keeps w W [] → i < n → Calls Tryz.prog 141 #[.int .i64 (i : Int), .pointer (some ⟨bC, 0, none⟩), .pointer (some ⟨bS, 0, none⟩), .pointer (some ⟨bN, 0, none⟩), .pointer (some ⟨bT, 0, none⟩)] W fun e w' => e = .returned (.int .i64 (vf i)) ∧ Keeps W w' []) :
    Calls Tryz.prog 145 #[.slice a n c, .func (.func 142) #[] #[.pointer (some ⟨bC, 0, none⟩)], .func (.func 141) #[] #[.pointer (some ⟨bC, 0, none⟩), .pointer (some ⟨bS, 0, none⟩), .pointer (some ⟨bN, 0, none⟩), .pointer (some ⟨bT, 0, none⟩)]] w fun e w' => e = .returned (.int .i64 (match furF am vf n with | none => -1 | some b => (b : Int))) ∧ Keeps w w' [] := by
  have HA := Lib.hid hA
  have HO := Lib.hid hO
  have HF : Hid (∀ i, furF am vf (i + 1) = match furF am vf i with | none => if am i then some i else none | some b => if am i && decide (vf b < vf i) then some i else some b) := fun i => rfl
  have HB := Lib.hid (fun i b (h : furF am vf i = some b) => (furF_some h).1)
  obtain ⟨R, hR⟩ : ∃ R : Int, (match furF am vf n with | none => -1 | some b => (b : Int)) = R := ⟨_, rfl⟩
  rw [hR]
  have HR := Lib.hid hR
  clear hA hO hR
  go_enter Tryz.func145, Tryz.ntmps145
  go_wp2_with fail
  go_loopw [7, 11] (fun s7 s11 wr => ∃ (i : Nat) (Z : Int), i ≤ n ∧ s11 = .int .i64 (i : Int) ∧ s7 = .int .i64 Z ∧ Keeps w wr [] ∧ Hid ((furF am vf i = none ∧ Z = -1) ∨ (∃ b, furF am vf i = some b ∧ Z = (b : Int)))) (fun _ s11 _ => n - (intOf s11).toNat)
  case atStart => exact ⟨0, -1, Nat.zero_le _, rfl, rfl, Keeps.refl _ _, .inl ⟨rfl, rfl⟩⟩
  case round =>
    obtain ⟨i, Z, hi, rfl, rfl, kk, hz⟩ := hrel
    by_cases hlt : i < n
    · have hiI : (i : Int) < (n : Int) := by omega
      have HCA := Lib.hid (HA.out i wr kk hlt)
      have hfi := HF.out i
      cases ham : am i with
      | false =>
        rw [ham] at HCA
        have HZ2 : Hid ((furF am vf (i + 1) = none ∧ Z = -1) ∨ (∃ b, furF am vf (i + 1) = some b ∧ Z = (b : Int))) := Lib.hid (by
          rcases hz.out with ⟨h1, h2⟩ | ⟨b, h1, h2⟩
          · rw [h1, ham] at hfi
            exact .inl ⟨hfi, h2⟩
          · rw [h1, ham] at hfi
            exact .inr ⟨b, hfi, h2⟩)
        clear hz hfi ham
        go_wp2_with (go_at_call 142; go_loud (refine HCA.out.mono ?_; rintro e w2 ⟨rfl, k2⟩))
        go_roundw
        case rel => exact ⟨i + 1, Z, by omega, by go_num, rfl, kk.then k2, HZ2⟩
        case measure => simp [intOf]; omega
      | true =>
        rw [ham] at HCA
        rcases hz.out with ⟨h1, h2⟩ | ⟨b, h1, h2⟩
        · rw [h1, ham] at hfi
          have HZ2 : Hid ((furF am vf (i + 1) = none ∧ (i : Int) = -1) ∨ (∃ b, furF am vf (i + 1) = some b ∧ (i : Int) = (b : Int))) := Lib.hid (.inr ⟨i, hfi, rfl⟩)
          have hZ0 : decide (Z < 0) = true := decide_eq_true (by omega)
          clear hz hfi ham h1 h2
          go_wp2_with (go_at_call 142; go_loud (refine HCA.out.mono ?_; rintro e w2 ⟨rfl, k2⟩))
          go_roundw
          case rel => exact ⟨i + 1, (i : Int), by omega, by go_num, rfl, kk.then k2, HZ2⟩
          case measure => simp [intOf]; omega
        · rw [h1, ham] at hfi
          simp only [Bool.true_and, decide_eq_true_eq] at hfi
          have hbi := HB.out i b h1
          have hZ0 : decide (Z < 0) = false := decide_eq_false (by omega)
          subst h2
          have HO1 := Lib.hid (fun W (k : Keeps w W []) => HO.out i W k hlt)
          have HO2 := Lib.hid (fun W (k : Keeps w W []) => HO.out b W k (by omega))
          obtain ⟨V1, hV1⟩ : ∃ V, vf i = V := ⟨_, rfl⟩
          obtain ⟨V2, hV2⟩ : ∃ V, vf b = V := ⟨_, rfl⟩
          rw [hV1, hV2] at hfi
          rw [hV1] at HO1
          rw [hV2] at HO2
          by_cases hvv : V2 < V1
          · have hvb : decide (V2 < V1) = true := decide_eq_true hvv
            rw [if_pos hvv] at hfi
            have HZ2 : Hid ((furF am vf (i + 1) = none ∧ (i : Int) = -1) ∨ (∃ b, furF am vf (i + 1) = some b ∧ (i : Int) = (b : Int))) := Lib.hid (.inr ⟨i, hfi, rfl⟩)
            clear hz hfi ham h1 hV1 hV2
            go_wp2_with (first
              | (go_at_call 142; go_loud (refine HCA.out.mono ?_; rintro e w2 ⟨rfl, k2⟩; have kk2 := kk.then k2))
              | (go_at_call 141; go_loud (refine (HO1.out _ kk2).mono ?_; rintro e w3 ⟨rfl, k3⟩; have kk3 := kk2.then k3; clear HO1))
              | (go_at_call 141; go_loud (refine (HO2.out _ kk3).mono ?_; rintro e w4 ⟨rfl, k4⟩; have kk4 := kk3.then k4)))
            go_roundw
            case rel => exact ⟨i + 1, (i : Int), by omega, by go_num, rfl, kk4, HZ2⟩
            case measure => simp [intOf]; omega
          · have hvb : decide (V2 < V1) = false := decide_eq_false hvv
            rw [if_neg hvv] at hfi
            have HZ2 : Hid ((furF am vf (i + 1) = none ∧ (b : Int) = -1) ∨ (∃ b', furF am vf (i + 1) = some b' ∧ (b : Int) = (b' : Int))) := Lib.hid (.inr ⟨b, hfi, rfl⟩)
            clear hz hfi ham h1 hV1 hV2
            go_wp2_with (first
              | (go_at_call 142; go_loud (refine HCA.out.mono ?_; rintro e w2 ⟨rfl, k2⟩; have kk2 := kk.then k2))
              | (go_at_call 141; go_loud (refine (HO1.out _ kk2).mono ?_; rintro e w3 ⟨rfl, k3⟩; have kk3 := kk2.then k3; clear HO1))
              | (go_at_call 141; go_loud (refine (HO2.out _ kk3).mono ?_; rintro e w4 ⟨rfl, k4⟩; have kk4 := kk3.then k4)))
            go_roundw
            case rel => exact ⟨i + 1, (b : Int), by omega, by go_num, rfl, kk4, HZ2⟩
            case measure => simp [intOf]; omega
    · obtain rfl : i = n := by omega
      have hii : decide ((i : Int) < (i : Int)) = false := by simp
      have hZR : Z = R := by
        rw [← HR.out]
        rcases hz.out with ⟨h1, h2⟩ | ⟨b, h1, h2⟩
        · rw [h1]; exact h2
        · rw [h1]; exact h2
      subst hZR
      clear hz
      go_wp2_with fail
      go_ret
      exact ⟨rfl, kk⟩

set_option maxRecDepth 100000 in
set_option maxHeartbeats 4000000 in
theorem nfur_down (bF bN n c : Nat) (a : Option Addr) (am : Nat → Bool) (vf : Nat → Int) (w : World) (hn : n ≤ 1000000)
    (hA : ∀ i W, Keeps w W [] → i < n → Calls Tryz.prog 143 #[.int .i64 (i : Int), .pointer (some ⟨bN, 0, none⟩)] W fun e w' => e = .returned (.bool (am i)) ∧ Keeps W w' [])
    (hO : ∀ i W, Keeps w W [] → i < n → Calls Tryz.prog 144 #[.int .i64 (i : Int), .pointer (some ⟨bF, 0, none⟩)] W fun e w' => e = .returned (.int .i64 (vf i)) ∧ Keeps W w' []) :
    Calls Tryz.prog 145 #[.slice a n c, .func (.func 143) #[] #[.pointer (some ⟨bN, 0, none⟩)], .func (.func 144) #[] #[.pointer (some ⟨bF, 0, none⟩)]] w fun e w' => e = .returned (.int .i64 (match furF am vf n with | none => -1 | some b => (b : Int))) ∧ Keeps w w' [] := by
  have HA := Lib.hid hA
  have HO := Lib.hid hO
  have HF : Hid (∀ i, furF am vf (i + 1) = match furF am vf i with | none => if am i then some i else none | some b => if am i && decide (vf b < vf i) then some i else some b) := fun i => rfl
  have HB := Lib.hid (fun i b (h : furF am vf i = some b) => (furF_some h).1)
  obtain ⟨R, hR⟩ : ∃ R : Int, (match furF am vf n with | none => -1 | some b => (b : Int)) = R := ⟨_, rfl⟩
  rw [hR]
  have HR := Lib.hid hR
  clear hA hO hR
  go_enter Tryz.func145, Tryz.ntmps145
  go_wp2_with fail
  go_loopw [7, 11] (fun s7 s11 wr => ∃ (i : Nat) (Z : Int), i ≤ n ∧ s11 = .int .i64 (i : Int) ∧ s7 = .int .i64 Z ∧ Keeps w wr [] ∧ Hid ((furF am vf i = none ∧ Z = -1) ∨ (∃ b, furF am vf i = some b ∧ Z = (b : Int)))) (fun _ s11 _ => n - (intOf s11).toNat)
  case atStart => exact ⟨0, -1, Nat.zero_le _, rfl, rfl, Keeps.refl _ _, .inl ⟨rfl, rfl⟩⟩
  case round =>
    obtain ⟨i, Z, hi, rfl, rfl, kk, hz⟩ := hrel
    by_cases hlt : i < n
    · have hiI : (i : Int) < (n : Int) := by omega
      have HCA := Lib.hid (HA.out i wr kk hlt)
      have hfi := HF.out i
      cases ham : am i with
      | false =>
        rw [ham] at HCA
        have HZ2 : Hid ((furF am vf (i + 1) = none ∧ Z = -1) ∨ (∃ b, furF am vf (i + 1) = some b ∧ Z = (b : Int))) := Lib.hid (by
          rcases hz.out with ⟨h1, h2⟩ | ⟨b, h1, h2⟩
          · rw [h1, ham] at hfi
            exact .inl ⟨hfi, h2⟩
          · rw [h1, ham] at hfi
            exact .inr ⟨b, hfi, h2⟩)
        clear hz hfi ham
        go_wp2_with (go_at_call 143; go_loud (refine HCA.out.mono ?_; rintro e w2 ⟨rfl, k2⟩))
        go_roundw
        case rel => exact ⟨i + 1, Z, by omega, by go_num, rfl, kk.then k2, HZ2⟩
        case measure => simp [intOf]; omega
      | true =>
        rw [ham] at HCA
        rcases hz.out with ⟨h1, h2⟩ | ⟨b, h1, h2⟩
        · rw [h1, ham] at hfi
          have HZ2 : Hid ((furF am vf (i + 1) = none ∧ (i : Int) = -1) ∨ (∃ b, furF am vf (i + 1) = some b ∧ (i : Int) = (b : Int))) := Lib.hid (.inr ⟨i, hfi, rfl⟩)
          have hZ0 : decide (Z < 0) = true := decide_eq_true (by omega)
          clear hz hfi ham h1 h2
          go_wp2_with (go_at_call 143; go_loud (refine HCA.out.mono ?_; rintro e w2 ⟨rfl, k2⟩))
          go_roundw
          case rel => exact ⟨i + 1, (i : Int), by omega, by go_num, rfl, kk.then k2, HZ2⟩
          case measure => simp [intOf]; omega
        · rw [h1, ham] at hfi
          simp only [Bool.true_and, decide_eq_true_eq] at hfi
          have hbi := HB.out i b h1
          have hZ0 : decide (Z < 0) = false := decide_eq_false (by omega)
          subst h2
          have HO1 := Lib.hid (fun W (k : Keeps w W []) => HO.out i W k hlt)
          have HO2 := Lib.hid (fun W (k : Keeps w W []) => HO.out b W k (by omega))
          obtain ⟨V1, hV1⟩ : ∃ V, vf i = V := ⟨_, rfl⟩
          obtain ⟨V2, hV2⟩ : ∃ V, vf b = V := ⟨_, rfl⟩
          rw [hV1, hV2] at hfi
          rw [hV1] at HO1
          rw [hV2] at HO2
          by_cases hvv : V2 < V1
          · have hvb : decide (V2 < V1) = true := decide_eq_true hvv
            rw [if_pos hvv] at hfi
            have HZ2 : Hid ((furF am vf (i + 1) = none ∧ (i : Int) = -1) ∨ (∃ b, furF am vf (i + 1) = some b ∧ (i : Int) = (b : Int))) := Lib.hid (.inr ⟨i, hfi, rfl⟩)
            clear hz hfi ham h1 hV1 hV2
            go_wp2_with (first
              | (go_at_call 143; go_loud (refine HCA.out.mono ?_; rintro e w2 ⟨rfl, k2⟩; have kk2 := kk.then k2))
              | (go_at_call 144; go_loud (refine (HO1.out _ kk2).mono ?_; rintro e w3 ⟨rfl, k3⟩; have kk3 := kk2.then k3; clear HO1))
              | (go_at_call 144; go_loud (refine (HO2.out _ kk3).mono ?_; rintro e w4 ⟨rfl, k4⟩; have kk4 := kk3.then k4)))
            go_roundw
            case rel => exact ⟨i + 1, (i : Int), by omega, by go_num, rfl, kk4, HZ2⟩
            case measure => simp [intOf]; omega
          · have hvb : decide (V2 < V1) = false := decide_eq_false hvv
            rw [if_neg hvv] at hfi
            have HZ2 : Hid ((furF am vf (i + 1) = none ∧ (b : Int) = -1) ∨ (∃ b', furF am vf (i + 1) = some b' ∧ (b : Int) = (b' : Int))) := Lib.hid (.inr ⟨b, hfi, rfl⟩)
            clear hz hfi ham h1 hV1 hV2
            go_wp2_with (first
              | (go_at_call 143; go_loud (refine HCA.out.mono ?_; rintro e w2 ⟨rfl, k2⟩; have kk2 := kk.then k2))
              | (go_at_call 144; go_loud (refine (HO1.out _ kk2).mono ?_; rintro e w3 ⟨rfl, k3⟩; have kk3 := kk2.then k3; clear HO1))
              | (go_at_call 144; go_loud (refine (HO2.out _ kk3).mono ?_; rintro e w4 ⟨rfl, k4⟩; have kk4 := kk3.then k4)))
            go_roundw
            case rel => exact ⟨i + 1, (b : Int), by omega, by go_num, rfl, kk4, HZ2⟩
            case measure => simp [intOf]; omega
    · obtain rfl : i = n := by omega
      have hii : decide ((i : Int) < (i : Int)) = false := by simp
      have hZR : Z = R := by
        rw [← HR.out]
        rcases hz.out with ⟨h1, h2⟩ | ⟨b, h1, h2⟩
        · rw [h1]; exact h2
        · rw [h1]; exact h2
      subst hZR
      clear hz
      go_wp2_with fail
      go_ret
      exact ⟨rfl, kk⟩


end Go.Proofs.YtophgpnnjphnmaaGreat
