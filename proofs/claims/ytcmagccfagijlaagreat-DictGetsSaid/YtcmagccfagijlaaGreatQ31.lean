/-
  Walks over the reference of descriptions: least, get.
  Walks over the reference of descriptions: norms.
  Walks over the reference of descriptions: Get.
  A description is read from 1024 bytes: further bytes change nothing. (No program in sight.)
-/
import Derived.Test.YtcmagccfagijlaaGreatQ27
import Derived.Test.YtcmagccfagijlaaGreatQ4
import Derived.Test.YtcmagccfagijlaaGreatQ16
import Derived.Test.YtcmagccfagijlaaGreatQ20
namespace Go.Proofs.YtcmagccfagijlaaGreat
section
set_option linter.unusedVariables false
set_option linter.unusedSimpArgs false
set_option linter.unusedSectionVars false
open Go.RowKit

theorem lt_log2 {m b : Nat} (hm : 0 < m) : b < m.log2 ↔ 2 * 2 ^ b ≤ m := by
  have h1 := log2_le hm
  have h2 := log2_ltD hm
  constructor
  · intro h
    have : 2 ^ (b + 1) ≤ 2 ^ m.log2 := Nat.pow_le_pow_right (by omega) h
    rw [Nat.pow_succ] at this
    omega
  · intro h
    by_cases hb : b < m.log2
    · exact hb
    · exfalso
      have : 2 ^ (m.log2 + 1) ≤ 2 ^ (b + 1) := Nat.pow_le_pow_right (by omega) (by omega)
      rw [Nat.pow_succ 2 b] at this
      omega
theorem log2_9 {m : Nat} (hm : 0 < m) (h : m ≤ 514) : m.log2 ≤ 9 := log2_small hm h
theorem pow_int (b : Nat) : ((2 : Int) ^ ((b : Int).toNat)) = ((2 ^ b : Nat) : Int) := by simp

set_option maxRecDepth 100000 in
set_option maxHeartbeats 2000000 in
theorem rleast_any (m : Nat) (w : World) (hm : 0 < m) (h : m ≤ 514) :
    Calls Tryz.prog 172 #[.int .i64 (m : Int)] w fun e w' => e = .returned (.int .i64 ((m.log2 : Nat) : Int)) ∧ w' = w := by
  obtain ⟨K, hK⟩ : ∃ K, m.log2 = K := ⟨_, rfl⟩
  have HB := Lib.hid (fun b => lt_log2 (m := m) (b := b) hm)
  rw [hK] at HB ⊢
  have hK9 : K ≤ 9 := by have := log2_9 hm h; omega
  clear hK
  go_enter Tryz.func172, Tryz.ntmps172
  go_wp2_with fail
  go_loopw [3] (fun s3 wr => wr = w ∧ ∃ b : Nat, b ≤ K ∧ s3 = .int .i64 (b : Int)) (fun s3 _ => K - (intOf s3).toNat)
  case atStart => exact ⟨rfl, 0, by omega, rfl⟩
  case round =>
    obtain ⟨rfl, b, hb, rfl⟩ := hrel
    have HS := Lib.hid (rsize_any (b : Int) wr (by omega) (by omega))
    rw [pow_int] at HS
    have hbm := HB.out b
    have hp : 2 ^ b ≤ 2 ^ 9 := Nat.pow_le_pow_right (by omega) (by omega)
    obtain ⟨X, hX⟩ : ∃ X : Int, ((2 ^ b : Nat) : Int) = X := ⟨_, rfl⟩
    rw [hX] at HS
    have hX0 : 0 ≤ X := by omega
    have hX9 : X ≤ 512 := by omega
    by_cases hlt : b < K
    · have hle : 2 * X ≤ (m : Int) := by have := hbm.1 hlt; omega
      clear hX hbm hp
      go_wp2_with (go_at_call 77; refine HS.out.mono ?_; rintro e w1 ⟨rfl, rfl⟩)
      go_roundw
      case rel => exact ⟨trivial, b + 1, by omega, by simp⟩
      case measure => simp only [intOf]; omega
    · obtain rfl : b = K := by omega
      have hle : ¬ 2 * X ≤ (m : Int) := fun h => hlt (hbm.2 (by omega))
      clear hX hbm hp hlt
      go_wp2_with (go_at_call 77; refine HS.out.mono ?_; rintro e w1 ⟨rfl, rfl⟩)
      go_ret
      exact ⟨rfl, rfl⟩

/-- What is known of a reader when a number is read. -/
def FrDone (w : World) (Q G N : Nat) (Z : Except Int (Nat × List Bool)) (v n : Int) (w' : World) : Prop :=
  Keeps w w' [Q] ∧ match Z with
    | .ok (x, L1) => v = (x : Int) ∧ n = 0 ∧ ∃ r', FR w' Q G L1 r' ∧ r' + L1.length = N
    | .error e => n = e ∧ e ≠ 0

set_option maxRecDepth 100000 in
set_option maxHeartbeats 2000000 in
theorem rget_any (Q G r m : Nat) (l : List Bool) (w : World) (h : FR w Q G l r) (hm : 0 < m) (h5 : m ≤ 514) :
    Calls Tryz.prog 141 #[.pointer (some ⟨Q, 0, none⟩), .int .i64 (m : Int)] w fun e w' => ∃ v n, e = .returned (.tuple #[.int .i64 v, .int .i64 n]) ∧ FrDone w Q G (r + l.length) (numP l m) v n w' := by
  have HL := Lib.hid (rleast_any m w hm h5)
  have h1 := log2_le hm
  have h2 := log2_ltD hm
  obtain ⟨K, hK⟩ : ∃ K, m.log2 = K := ⟨_, rfl⟩
  obtain ⟨Z, hZ⟩ : ∃ Z, numP l m = Z := ⟨_, rfl⟩
  rw [hZ]
  unfold numP at hZ
  rw [hK] at HL hZ h1 h2
  have hK9 : K ≤ 9 := by have := log2_9 hm h5; omega
  have HS := Lib.hid (rsize_any (K : Int) w (by omega) (by omega))
  rw [pow_int] at HS
  have hp : 2 ^ K ≤ 2 ^ 9 := Nat.pow_le_pow_right (by omega) (by omega)
  rw [Nat.pow_succ] at hZ h2
  obtain ⟨X, hX⟩ : ∃ X : Int, ((2 ^ K : Nat) : Int) = X := ⟨_, rfl⟩
  rw [hX] at HS
  have hX0 : 0 ≤ X := by omega
  have hX9 : X ≤ 512 := by omega
  by_cases hA : K ≤ l.length
  · have HF := Lib.hid (rfirst_ok Q G r K l w h hA (by omega))
    rw [tk_ok hA] at hZ
    simp only at hZ
    have hvl := valL_lt (l.take K)
    have hlen : (l.take K).length = K := by rw [List.length_take]; omega
    rw [hlen] at hvl
    obtain ⟨t, ht⟩ : ∃ t, valL (l.take K) = t := ⟨_, rfl⟩
    rw [ht] at HF hZ hvl
    obtain ⟨U, hU⟩ : ∃ U : Int, 2 * X - (m : Int) = U := ⟨_, rfl⟩
    have hU0 : 0 ≤ U := by omega
    have hU9 : U ≤ 1024 := by omega
    have ht9 : t < 512 := by omega
    have HDR := Lib.hid (show (l.drop K).length + K = l.length by rw [List.length_drop]; omega)
    by_cases hlt : t < 2 ^ K * 2 - m
    · have hlt2 : (t : Int) < U := by omega
      rw [if_pos hlt] at hZ
      have HZ := Lib.hid hZ
      clear hZ hp hX hvl ht hlt h1 h2 h hA hlen
      go_enter Tryz.func141, Tryz.ntmps141
      go_wp2_with (first
        | (go_at_call 172; refine HL.out.mono ?_; rintro e w1 ⟨rfl, rfl⟩)
        | (go_at_call 77; refine HS.out.mono ?_; rintro e w1 ⟨rfl, rfl⟩)
        | (go_at_call 103; refine HF.out.mono ?_; rintro e w1 ⟨rfl, fr1, k1⟩))
      go_ret2
      refine ⟨_, _, rfl, k1, ?_⟩
      rw [← HZ.out]
      exact ⟨rfl, rfl, r + K, fr1, by have := HDR.out; omega⟩
    · have hlt2 : ¬ (t : Int) < U := by omega
      rw [if_neg hlt] at hZ
      by_cases hC : 1 ≤ (l.drop K).length
      · rw [tk_ok hC] at hZ
        simp only at hZ
        have HF2 := Lib.hid (fun w1 (fr : FR w1 Q G (l.drop K) (r + K)) => rfirst_ok Q G (r + K) 1 (l.drop K) w1 fr hC (by omega))
        have hv1 := valL_lt ((l.drop K).take 1)
        have hlen1 : ((l.drop K).take 1).length = 1 := by rw [List.length_take]; omega
        rw [hlen1] at hv1
        obtain ⟨c, hc⟩ : ∃ c, valL ((l.drop K).take 1) = c := ⟨_, rfl⟩
        rw [hc] at HF2 hZ hv1
        have hc1 : c ≤ 1 := by omega
        have HD2 := Lib.hid (show ((l.drop K).drop 1).length + 1 = (l.drop K).length by rw [List.length_drop]; omega)
        have HZ := Lib.hid hZ
        have HV := Lib.hid (show 2 * (t : Int) + (c : Int) - U = ((2 * t + c - (2 ^ K * 2 - m) : Nat) : Int) by omega)
        clear hZ hp hX hvl ht hlt h1 h2 h hA hlen hC hc hlen1
        go_enter Tryz.func141, Tryz.ntmps141
        go_wp2_with (first
          | (go_at_call 172; refine HL.out.mono ?_; rintro e w1 ⟨rfl, rfl⟩)
          | (go_at_call 77; refine HS.out.mono ?_; rintro e w1 ⟨rfl, rfl⟩)
          | (go_at_call 103; refine HF.out.mono ?_; rintro e w1 ⟨rfl, fr1, k1⟩; have HFF := Lib.hid (HF2.out w1 fr1); clear HF)
          | (go_at_call 103; refine HFF.out.mono ?_; rintro e w2 ⟨rfl, fr2, k2⟩))
        go_ret2
        refine ⟨_, _, rfl, k1.trans k2 (fun j hj _ => hj), ?_⟩
        rw [← HZ.out]
        exact ⟨HV.out, rfl, r + K + 1, fr2, by have := HDR.out; have := HD2.out; omega⟩
      · rw [tk_no (by omega)] at hZ
        simp only at hZ
        have HF2 := Lib.hid (fun w1 (fr : FR w1 Q G (l.drop K) (r + K)) => rfirst_no Q G (r + K) 1 (l.drop K) w1 fr (by omega) (by omega))
        have HZ := Lib.hid hZ
        clear hZ hp hX hvl ht hlt h1 h2 h hA hlen hC
        go_enter Tryz.func141, Tryz.ntmps141
        go_wp2_with (first
          | (go_at_call 172; refine HL.out.mono ?_; rintro e w1 ⟨rfl, rfl⟩)
          | (go_at_call 77; refine HS.out.mono ?_; rintro e w1 ⟨rfl, rfl⟩)
          | (go_at_call 103; refine HF.out.mono ?_; rintro e w1 ⟨rfl, fr1, k1⟩; have HFF := Lib.hid (HF2.out w1 fr1); clear HF)
          | (go_at_call 103; refine HFF.out.mono ?_; rintro e w2 ⟨rfl, rfl⟩))
        go_ret2
        refine ⟨_, _, rfl, k1, ?_⟩
        rw [← HZ.out]
        exact ⟨rfl, by decide⟩
  · have HF := Lib.hid (rfirst_no Q G r K l w h (by omega) (by omega))
    rw [tk_no (by omega)] at hZ
    simp only at hZ
    have HZ := Lib.hid hZ
    obtain ⟨U, hU⟩ : ∃ U : Int, 2 * X - (m : Int) = U := ⟨_, rfl⟩
    have hU0 : 0 ≤ U := by omega
    have hU9 : U ≤ 1024 := by omega
    clear hZ hp hX h1 h2 h hA
    go_enter Tryz.func141, Tryz.ntmps141
    go_wp2_with (first
      | (go_at_call 172; refine HL.out.mono ?_; rintro e w1 ⟨rfl, rfl⟩)
      | (go_at_call 77; refine HS.out.mono ?_; rintro e w1 ⟨rfl, rfl⟩)
      | (go_at_call 103; refine HF.out.mono ?_; rintro e w1 ⟨rfl, rfl⟩))
    go_ret2
    refine ⟨_, _, rfl, Keeps.refl _ _, ?_⟩
    rw [← HZ.out]
    exact ⟨rfl, by decide⟩
end

section
set_option linter.unusedVariables false
set_option linter.unusedSimpArgs false
set_option linter.unusedSectionVars false
open Go.RowKit

/-- 0 for true. -/
def ranV : Value → Nat
  | .bool true => 0
  | _ => 1

/-- How the reference's norms ends. -/
def NormsEnd (w : World) (Q G N : Nat) (Z : Except Int (List Int × List Bool)) (e : Ending) (w' : World) : Prop :=
  Keeps w w' [Q] ∧ match Z with
    | .ok (o, L) => ∃ a c, e = .returned (.tuple #[.slice a o.length c, .int .i64 0]) ∧ w'.ownsRow w.heap.size 3 1 (.slice a o.length c) o.length (o.map (.int .i64)) ∧ o.length ≤ 1300 ∧ ∃ r', FR w' Q G L r' ∧ r' + L.length = N
    | .error n => n ≠ 0 ∧ e = .returned (.tuple #[.slice none 0 0, .int .i64 n])

/-- What the norms behind a number say. -/
def normsK (symbols f : Nat) (left : Nat) : Except Int (List Int × List Bool) → Except Int (List Int × List Bool)
  | .error e => .error e
  | .ok (o, L2) => normsP symbols f L2 left o true

set_option maxRecDepth 100000 in
set_option maxHeartbeats 4000000 in
theorem rnorms_any (Q G r left symbols : Nat) (l : List Bool) (w : World) (h : FR w Q G l r) (hl : left ≤ 512) (hsy : symbols ≤ 256) :
    Calls Tryz.prog 104 #[.pointer (some ⟨Q, 0, none⟩), .int .i64 (left : Int), .int .i64 (symbols : Int)] w (NormsEnd w Q G (r + l.length) (normsP symbols (symbols + 1) l left [] false)) := by
  obtain ⟨i0, hi, hz0, hz1, hz2⟩ := info_parts Tryz.infoInt
  obtain ⟨Z, hZ⟩ : ∃ Z, normsP symbols (symbols + 1) l left [] false = Z := ⟨_, rfl⟩
  rw [hZ]
  have HZ := Lib.hid hZ
  have HH := Lib.hid h
  have lQ := h.lt
  have lG := Lib.hid (show 0 < l.length → G < w.heap.size from h.ltG)
  obtain ⟨N, hN⟩ : ∃ N, r + l.length = N := ⟨_, rfl⟩
  rw [hN]
  have HN := Lib.hid hN
  clear hZ h hN
  go_enter Tryz.func104, Tryz.ntmps104
  go_wp2_with fail
  go_loopw [1, 8, 9] (fun s1 s8 s9 wr => ∃ (lf n c f r' : Nat) (a : Option Addr) (ran : Bool) (out : List Int) (L : List Bool), s1 = .int .i64 (lf : Int) ∧ lf ≤ 512 ∧ s8 = .slice a n c ∧ s9 = .bool ran ∧ wr.ownsRow w.heap.size 3 1 (.slice a n c) n (out.map (.int .i64)) ∧ Hid (out.length = n) ∧ n ≤ symbols + 3 ∧ Keeps w wr [Q] ∧
      FR wr Q G L r' ∧ Hid (r' + L.length = N ∧ L.length ≤ l.length) ∧ 1 ≤ f ∧ symbols + 1 ≤ f + n ∧ Hid (normsP symbols f L lf out ran = Z))
    (fun s1 _ s9 _ => 2 * (intOf s1).toNat + ranV s9)
  case atStart => exact ⟨left, 0, 0, symbols + 1, r, none, false, [], l, rfl, hl, rfl, rfl, World.ownsRow_nil _ _ _ _, Lib.hid rfl, by omega, Keeps.refl _ _, HH.out, Lib.hid ⟨HN.out, Nat.le_refl _⟩, by omega, by omega, HZ⟩
  case round =>
    obtain ⟨lf, n, c, f, r', a, ran, out, L, rfl, hlf, rfl, rfl, own, hno, hn, kk, fr, hrl, hf1, hf2, hz⟩ := hrel
    obtain ⟨wo, hwo⟩ : ∃ x, x = wr := ⟨_, rfl⟩
    subst hwo
    have OW := Lib.hid own
    have FRo := Lib.hid fr
    have hs := kk.size
    have lGo : Hid (0 < L.length → G < w.heap.size) := Lib.hid (fun h0 => lG.out (by have := hrl.out.2; omega))
    obtain ⟨f, rfl⟩ : ∃ g, f = g + 1 := ⟨f - 1, by omega⟩
    have hz1 := hz.out
    unfold normsP at hz1
    clear hz own fr
    by_cases h0 : lf = 0
    · subst h0
      rw [if_pos rfl] at hz1
      have HZ1 := Lib.hid hz1
      clear hz1
      go_wp2_with fail
      go_ret2
      refine ⟨kk, ?_⟩
      rw [← HZ1.out]
      refine ⟨a, c, by rw [hno.out]; rfl, by rw [hno.out]; exact OW.out, by rw [hno.out]; omega, r', FRo.out, hrl.out.1⟩
    · rw [if_neg h0] at hz1
      have hlf0 : (0 : Int) < (lf : Int) := by omega
      by_cases hsn : symbols ≤ n
      · rw [if_pos (by rw [hno.out]; exact hsn)] at hz1
        have HZ1 := Lib.hid hz1
        have hge : (symbols : Int) ≤ (n : Int) := by omega
        clear hz1
        go_wp2_with fail
        go_ret2
        refine ⟨kk, ?_⟩
        rw [← HZ1.out]
        exact ⟨by decide, rfl⟩
      · rw [if_neg (by rw [hno.out]; exact hsn)] at hz1
        have hge : ¬ (symbols : Int) ≤ (n : Int) := by omega
        have HG := Lib.hid (rget_any Q G r' (lf + 2) L wo FRo.out (by omega) (by omega))
        obtain ⟨Y, hY⟩ : ∃ Y, numP L (lf + 2) = Y := ⟨_, rfl⟩
        rw [hY] at HG hz1
        have hlf2 : (lf : Int) + 2 = ((lf + 2 : Nat) : Int) := by omega
        have HLF := Lib.hid hlf2
        clear hlf2
        cases Y with
        | error e =>
          simp only at hz1
          have HZ1 := Lib.hid hz1
          clear hz1 hY
          go_wp2_with (go_at_call 141; refine HG.out.mono ?_; rintro e' w1 ⟨v, e2, rfl, k1, rfl, hne⟩; have hnb : (e2 == 0) = false := by simpa using hne)
          go_ret2
          refine ⟨kk.trans k1 (fun j hj _ => hj), ?_⟩
          rw [← HZ1.out]
          exact ⟨hne, rfl⟩
        | ok y =>
          obtain ⟨v, L1⟩ := y
          simp only at hz1
          have hv := numP_lt (by omega) hY
          obtain ⟨hv1, hv2, hv3⟩ := hv
          have hLL : L1.length ≤ L.length := by omega
          have HLL := Lib.hid hLL
          clear hY hv2 hv3 hLL
          by_cases h1 : v = 1
          · subst h1
            cases ran with
            | true =>
              rw [if_pos ⟨rfl, rfl⟩] at hz1
              have HZ1 := Lib.hid hz1
              clear hz1
              go_wp2_with (go_at_call 141; refine HG.out.mono ?_; rintro e' w1 ⟨v, e2, rfl, k1, rfl, rfl, r1, fr1, hr1⟩)
              go_ret2
              refine ⟨kk.trans k1 (fun j hj _ => hj), ?_⟩
              rw [← HZ1.out]
              exact ⟨by decide, rfl⟩
            | false =>
              rw [if_neg (by simp), if_pos rfl] at hz1
              have hk1 : normsK symbols f lf (zerosP symbols (symbols + 1) L1 (out ++ [0])) = Z := by
                rw [← hz1]
                simp only [normsK]
                rfl
              have HZ1 := Lib.hid hk1
              have HST := Lib.hid (fun W => rstates_any 0 W)
              rw [show stN 0 = 0 from rfl] at HST
              clear hz1 hk1
              go_wp2_with (first
                | (go_at_call 141; refine HG.out.mono ?_; rintro e' w1 ⟨v', e2, rfl, k1, rfl, rfl, r1, fr1, hr1⟩; have k01 := kk.trans k1 (fun j hj _ => hj); have OW1 := Lib.hid (own_old OW.out k1 (fun x hx hm => by have := List.mem_singleton.1 hm; have := (OW.out.lt x hx).1; omega)); have HK01 := Lib.hid k01; have hs1 := k1.size; have HR1 := Lib.hid hr1; have HF1 := Lib.hid fr1; clear fr1 hr1 k1 k01)
                | (at_builtin; go_loud (refine wpList_app1I (w := w1) rfl _ _ 25 rfl w.heap.size i0 Tryz.underlying25 hi hz0 hz1 hz2 (.slice a n c) n out 0 _ rfl rfl rfl OW1.out (by omega) (by omega) ?_; intro a3 c3 w3 own3 k3; have HY3 := Lib.hid (young OW1.out); have OW3 := Lib.hid own3; have HK3 := Lib.hid k3; have hs3 := k3.size; clear own3 k3))
                | (go_at_call 76; refine (HST.out _).mono ?_; rintro e' w4 ⟨rfl, rfl⟩))
              have FR3 := HF1.out.old HK3.out lQ (fun h0 => lG.out (by have := hrl.out.2; have := HLL.out; omega)) HY3.out
              have KK3 : Keeps w w3 [Q] := HK01.out.trans HK3.out (fun j hj hlt => by have := HY3.out j hj; omega)
              have RL1 := Lib.hid (show r1 + L1.length = N ∧ L1.length ≤ l.length from ⟨by rw [HR1.out]; exact hrl.out.1, by have := hrl.out.2; have := HLL.out; omega⟩)
              have HREL := Lib.hid (show _ ∧ _ ∧ _ from ⟨OW3.out, KK3, FR3⟩)
              have hs3' := KK3.size
              clear OW OW1 FRo HG HST HF1 HR1 HK01 HK3 HY3 OW3 FR3 KK3 HLL hrl hs1 hs3 hs
              go_loopw [8, 12] (fun s8 s12 wr => ∃ (n2 c2 f2 r2 : Nat) (a2 : Option Addr) (more : Bool) (out2 : List Int) (L2 : List Bool), s8 = .slice a2 n2 c2 ∧ s12 = .bool more ∧ wr.ownsRow w.heap.size 3 1 (.slice a2 n2 c2) n2 (out2.map (.int .i64)) ∧ Hid (out2.length = n2) ∧ n + 1 ≤ n2 ∧ n2 ≤ symbols + 3 ∧ Keeps w wr [Q] ∧
                  FR wr Q G L2 r2 ∧ Hid (r2 + L2.length = N ∧ L2.length ≤ l.length) ∧ 1 ≤ f2 ∧ symbols + 1 ≤ f2 + n2 ∧ Hid ((more = true ∧ normsK symbols f lf (zerosP symbols f2 L2 out2) = Z) ∨ (more = false ∧ normsP symbols f L2 lf out2 true = Z)))
                (fun s8 s12 _ => 2 * (symbols + 3 - lenV s8) + (1 - ranV s12))
              case atStart =>
                obtain ⟨x1, x2, x3⟩ := HREL.out
                exact ⟨n + 1, c3, symbols + 1, r1, a3, true, out ++ [0], L1, rfl, rfl, x1, Lib.hid (by rw [List.length_append, hno.out]; rfl), by omega, by omega, x2, x3, RL1, by omega, by omega, Lib.hid (.inl ⟨rfl, HZ1.out⟩)⟩
              case round =>
                clear HREL RL1 HZ1 hs3'
                obtain ⟨n2, c2, f2, r2, a2, more, out2, L2, rfl, rfl, own, hno2, hn2, hn2s, kk2, fr, hrl, hf21, hf22, hz⟩ := hrel
                obtain ⟨wo, hwo⟩ : ∃ x, x = wr := ⟨_, rfl⟩
                subst hwo
                have OW := Lib.hid own
                have FRo := Lib.hid fr
                have hs := kk2.size
                clear own fr
                cases more with
                | false =>
                  have HZ2 : Hid (normsP symbols f L2 lf out2 true = Z) := Lib.hid (hz.out.elim (fun h => by cases h.1) (fun h => h.2))
                  clear hz
                  go_wp2_with fail
                  go_roundw
                  case rel => exact ⟨lf, n2, c2, f, r2, a2, true, out2, L2, rfl, by omega, rfl, rfl, OW.out, hno2, by omega, kk2, FRo.out, hrl, by omega, by omega, HZ2⟩
                  case measure =>
                    simp only [intOf, ranV]
                    omega
                | true =>
                  have hz2 : normsK symbols f lf (zerosP symbols f2 L2 out2) = Z := hz.out.elim (fun h => h.2) (fun h => by cases h.1)
                  obtain ⟨f2, rfl⟩ : ∃ g, f2 = g + 1 := ⟨f2 - 1, by omega⟩
                  unfold zerosP at hz2
                  clear hz
                  by_cases hsn2 : symbols ≤ n2
                  · rw [if_pos (by rw [hno2.out]; exact hsn2)] at hz2
                    have HZ2 : Hid (Except.error 13 = Z) := Lib.hid hz2
                    have hge2 : (symbols : Int) ≤ (n2 : Int) := by omega
                    clear hz2
                    go_wp2_with fail
                    go_ret2
                    refine ⟨kk2, ?_⟩
                    rw [← HZ2.out]
                    exact ⟨by decide, rfl⟩
                  · rw [if_neg (by rw [hno2.out]; exact hsn2)] at hz2
                    have hge2 : ¬ (symbols : Int) ≤ (n2 : Int) := by omega
                    by_cases hA : 2 ≤ L2.length
                    · have HF := Lib.hid (rfirst_ok Q G r2 2 L2 wo FRo.out hA (by omega))
                      rw [tk_ok hA] at hz2
                      simp only at hz2
                      have hvl := valL_lt (L2.take 2)
                      have hlen : (L2.take 2).length = 2 := by rw [List.length_take]; omega
                      rw [hlen] at hvl
                      obtain ⟨k, hk⟩ : ∃ k, valL (L2.take 2) = k := ⟨_, rfl⟩
                      rw [hk] at HF hz2 hvl
                      have hk3 : k ≤ 3 := by omega
                      have HDR := Lib.hid (show (L2.drop 2).length + 2 = L2.length by rw [List.length_drop]; omega)
                      have HZ2 := Lib.hid hz2
                      clear hz2 hvl hlen hk hA
                      go_wp2_with (go_at_call 103; refine HF.out.mono ?_; rintro e w1 ⟨rfl, fr1, k1⟩; have HF1 := Lib.hid fr1; have HK1 := Lib.hid (kk2.trans k1 (fun j hj _ => hj)); have OW1 := Lib.hid (own_old OW.out k1 (fun x hx hm => by have := List.mem_singleton.1 hm; have := (OW.out.lt x hx).1; omega)); have hs1 := k1.size; clear fr1 k1)
                      have hs1' := HK1.out.size
                      go_loopw [8, 15] (fun s8 s15 wr => ∃ (j c3 : Nat) (a3 : Option Addr), j ≤ k ∧ s8 = .slice a3 (n2 + j) c3 ∧ s15 = .int .i64 (j : Int) ∧ wr.ownsRow w.heap.size 3 1 (.slice a3 (n2 + j) c3) (n2 + j) ((out2 ++ List.replicate j (0 : Int)).map (.int .i64)) ∧ Keeps w wr [Q] ∧ FR wr Q G (L2.drop 2) (r2 + 2))
                        (fun _ s15 _ => k - (intOf s15).toNat)
                      case atStart => exact ⟨0, c2, a2, by omega, rfl, rfl, by simpa using OW1.out, HK1.out, HF1.out⟩
                      case round =>
                        clear OW1 HK1 HF1 hs1 hs1'
                        obtain ⟨j, c3, a3, hjk, rfl, rfl, own, kk3, fr3⟩ := hrel
                        obtain ⟨wp, hwp⟩ : ∃ x, x = wr := ⟨_, rfl⟩
                        subst hwp
                        have OW3 := Lib.hid own
                        have FR3 := Lib.hid fr3
                        have hs3 := kk3.size
                        clear own fr3
                        by_cases hjl : j < k
                        · have hjl2 : (j : Int) < (k : Int) := by omega
                          go_wp2_with (at_builtin; go_loud (refine wpList_app1I (w := wp) rfl _ _ 25 rfl w.heap.size i0 Tryz.underlying25 hi hz0 hz1 hz2 (.slice a3 (n2 + j) c3) (n2 + j) (out2 ++ List.replicate j 0) 0 _ rfl rfl rfl OW3.out (by omega) (by omega) ?_; intro a4 c4 w4 own4 k4; have HY4 := Lib.hid (young OW3.out); have OW4 := Lib.hid own4; have HK4 := Lib.hid k4; have hs4 := k4.size; clear own4 k4))
                          have FR4 := FR3.out.old HK4.out lQ (fun h0 => lG.out (by have := hrl.out.2; have := HDR.out; omega)) HY4.out
                          have KK4 : Keeps w w4 [Q] := kk3.trans HK4.out (fun j hj hlt => by have := HY4.out j hj; omega)
                          go_roundw
                          case rel => exact ⟨j + 1, c4, a4, by omega, rfl, by simp, by have := OW4.out; rw [List.append_assoc, show List.replicate j (0 : Int) ++ [0] = List.replicate (j + 1) 0 from List.replicate_succ'.symm] at this; exact this, KK4, FR4⟩
                          case measure =>
                            simp only [intOf]
                            omega
                        · obtain rfl : j = k := by omega
                          have hjj : ¬ (j : Int) < (j : Int) := by omega
                          obtain ⟨M, hM⟩ : ∃ M : Bool, ((j : Int) == 3) = M := ⟨_, rfl⟩
                          have HM := Lib.hid hM
                          have HN2 : Hid ((out2 ++ List.replicate j (0 : Int)).length = n2 + j) := Lib.hid (by rw [List.length_append, hno2.out, List.length_replicate])
                          go_wp2_with fail
                          go_roundw
                          case rel =>
                            refine ⟨n2 + j, c3, f2 + 3 - j, r2 + 2, a3, M, out2 ++ List.replicate j 0, L2.drop 2, rfl, rfl, OW3.out, HN2, by omega, by omega, kk3, FR3.out, Lib.hid ⟨by have := hrl.out.1; have := HDR.out; omega, by have := hrl.out.2; have := HDR.out; omega⟩, by omega, by omega, Lib.hid ?_⟩
                            have hz3 := HZ2.out
                            have hm := HM.out
                            by_cases h3 : j = 3
                            · subst h3
                              rw [if_pos rfl] at hz3
                              exact .inl ⟨hm.symm.trans (by simp), hz3⟩
                            · rw [if_neg h3] at hz3
                              exact .inr ⟨hm.symm.trans (by simp; omega), hz3⟩
                          case measure =>
                            simp only [lenV, ranV]
                            have hm := HM.out
                            by_cases h3 : j = 3
                            · subst h3
                              obtain rfl : M = true := hm.symm.trans (by simp)
                              simp only
                              omega
                            · obtain rfl : M = false := hm.symm.trans (by simp; omega)
                              simp only
                              omega
                    · have HF := Lib.hid (rfirst_no Q G r2 2 L2 wo FRo.out (by omega) (by omega))
                      rw [tk_no (by omega)] at hz2
                      simp only [normsK] at hz2
                      have HZ2 : Hid (Except.error 3 = Z) := Lib.hid hz2
                      clear hz2 hA
                      go_wp2_with (go_at_call 103; refine HF.out.mono ?_; rintro e w1 ⟨rfl, rfl⟩)
                      go_ret2
                      refine ⟨kk2, ?_⟩
                      rw [← HZ2.out]
                      exact ⟨by decide, rfl⟩
          · rw [if_neg (fun h => h1 h.1), if_neg h1] at hz1
            obtain ⟨X, hX⟩ : ∃ X : Int, (v : Int) - 1 = X := ⟨_, rfl⟩
            obtain ⟨Y1, hY1⟩ : ∃ Y1, stN X = Y1 := ⟨_, rfl⟩
            have HST := Lib.hid (fun W => rstates_any X W)
            rw [hY1] at HST
            obtain ⟨lf', hlf'⟩ : ∃ lf', lf - (if v = 0 then 1 else v - 1) = lf' := ⟨_, rfl⟩
            rw [hX, hlf'] at hz1
            have hY2 : (lf : Int) - Y1 = (lf' : Int) ∧ 1 ≤ Y1 ∧ lf' < lf := by
              unfold stN at hY1
              by_cases hv0 : v = 0
              · subst hv0
                rw [if_pos (by omega)] at hY1
                rw [if_pos rfl] at hlf'
                omega
              · rw [if_neg (by omega)] at hY1
                rw [if_neg hv0] at hlf'
                omega
            obtain ⟨hY2, hY3, hlt'⟩ := hY2
            have hXb : -1 ≤ X ∧ X ≤ 600 := by omega
            obtain ⟨hXa, hXb⟩ := hXb
            have HY2 := Lib.hid hY2
            have hY4 : Y1 ≤ 600 := by omega
            have HX := Lib.hid hX
            have HZ1 := Lib.hid hz1
            have hvb : ((v : Int) == 1) = false := by simp; omega
            clear hz1 hX hY1 hlf' hY2 h1
            go_wp2_with (first
              | (go_at_call 141; refine HG.out.mono ?_; rintro e' w1 ⟨v', e2, rfl, k1, rfl, rfl, r1, fr1, hr1⟩; have k01 := kk.trans k1 (fun j hj _ => hj); have OW1 := Lib.hid (own_old OW.out k1 (fun x hx hm => by have := List.mem_singleton.1 hm; have := (OW.out.lt x hx).1; omega)); have HK01 := Lib.hid k01; have hs1 := k1.size; have HR1 := Lib.hid hr1; have HF1 := Lib.hid fr1; clear fr1 hr1 k1 k01)
              | (at_builtin; go_loud (rw [HX.out]; refine wpList_app1I (w := w1) rfl _ _ 25 rfl w.heap.size i0 Tryz.underlying25 hi hz0 hz1 hz2 (.slice a n c) n out X _ rfl rfl rfl OW1.out (by omega) (by omega) ?_; intro a3 c3 w3 own3 k3; have HY3 := Lib.hid (young OW1.out); have OW3 := Lib.hid own3; have HK3 := Lib.hid k3; have hs3 := k3.size; clear own3 k3))
              | (go_at_call 76; rw [HX.out]; refine (HST.out _).mono ?_; rintro e' w4 ⟨rfl, rfl⟩))
            go_loopw [8, 12] (fun s8 s12 wr => wr = w3 ∧ s8 = .slice a3 (n + 1) c3 ∧ s12 = .bool false) (fun _ _ _ => 0)
            case atStart => exact ⟨rfl, rfl, rfl⟩
            case round =>
              obtain ⟨rfl, rfl, rfl⟩ := hrel
              go_wp2_with fail
              have FR3 := HF1.out.old HK3.out lQ (fun h0 => lG.out (by have := hrl.out.2; have := HLL.out; omega)) HY3.out
              have KK3 : Keeps w wr [Q] := HK01.out.trans HK3.out (fun j hj hlt => by have := HY3.out j hj; omega)
              go_roundw
              case rel => exact ⟨lf', n + 1, c3, f, r1, a3, false, out ++ [X], L1, by rw [HY2.out], by omega, rfl, rfl, OW3.out, Lib.hid (by rw [List.length_append, hno.out]; rfl), by omega, KK3, FR3, Lib.hid ⟨by rw [HR1.out]; exact hrl.out.1, by have := hrl.out.2; have := HLL.out; omega⟩, by omega, by omega, HZ1⟩
              case measure =>
                rw [HY2.out]
                simp only [intOf, ranV]
                omega
end

section
set_option linter.unusedVariables false
set_option linter.unusedSimpArgs false
set_option linter.unusedSectionVars false
open Go.RowKit

/-- The rest of a slice of bytes. -/
theorem sliceB_tail {w0 : World} {v : Value} {B : List Int} (h : RdI .u8 w0 v B) {i : Nat} (hi' : i ≤ B.length) :
    ∃ r, (∀ w, (Instr.slice 22 v (some (.int .i64 (i : Int))) none none).run Tryz.prog w = .ok r w) ∧ RdI .u8 w0 r (B.drop i) := by
  obtain ⟨i0, hi, hz0, hz1, hz2⟩ := info_parts Tryz.infoByte
  obtain ⟨ad, n, c, rfl, hn, hh⟩ := h.form
  have hcap := h.cap
  have run : ∀ w, (Instr.slice 22 (.slice ad n c) (some (.int .i64 (i : Int))) none none).run Tryz.prog w = .ok (.slice (if i < c then ad.map (·.add i) else ad) (n - i) (c - i)) w := by
    intro w
    have a1 : i ≤ n := by omega
    cases ad with
    | none =>
      obtain ⟨rfl, rfl, rfl⟩ := h.nilcap
      obtain rfl : i = 0 := by simp at hi'; omega
      simp [Instr.slice, Instr.sliceBounds, Instr.sliceBound, asIntOf, run_underlying Tryz.underlying22, go_sem, sizeOf, typeInfo, hi, hz1]
    | some a =>
      by_cases hic : i < c
      · have a3 : ¬ c = i := by omega
        simp [Instr.slice, Instr.sliceBounds, Instr.sliceBound, asIntOf, run_underlying Tryz.underlying22, go_sem, sizeOf, typeInfo, hi, hz1, a1, a3, hic]
      · obtain rfl : i = c := by omega
        obtain rfl : i = n := by omega
        simp [Instr.slice, Instr.sliceBounds, Instr.sliceBound, asIntOf, run_underlying Tryz.underlying22, go_sem, sizeOf, typeInfo, hi, hz1]
  refine ⟨_, run, ?_⟩
  by_cases he : n - i = 0
  · rw [he, show B.drop i = [] from List.drop_eq_nil_of_le (by omega)]
    cases ad with
    | none =>
      obtain ⟨rfl, rfl, rfl⟩ := h.nilcap
      have : (0 : Nat) - i = 0 := by omega
      rw [this]
      simp
      exact .nil
    | some a => split <;> exact .zero _ _
  · obtain ⟨b, o, rfl, -, -⟩ := h.addr (by omega)
    rw [if_pos (by omega)]
    have e : Option.map (fun x : Addr => x.add i) (some ⟨b, o, none⟩) = some ⟨b, o + i, none⟩ := by simp [Addr.add]
    rw [e]
    have := h.piece (p := i) (q := n - i) (by omega) (c - i) (by omega)
    rwa [List.take_of_length_le (by rw [List.length_drop]; omega)] at this

theorem res_cell_tmp2 {fn : Func} {p q r : Tmp} {T : TypeId} (h : fn.results = #[.cell p T, .tmp q, .tmp r]) {tmps : Array Value} {P : Program} {w : World} {a : Addr} {v u x : Value} (ht : tmps.getD p undef = .pointer (some a)) (hu : tmps.getD q undef = u) (hx : tmps.getD r undef = x) (hl : (loadVar T a).run P w = .ok v w) :
    (results fn tmps).run P w = .ok (.tuple #[v, u, x]) w := by
  have ht' : tmps[p]?.getD undef = .pointer (some a) := by simpa using ht
  have hu' : tmps[q]?.getD undef = u := by simpa using hu
  have hx' : tmps[r]?.getD undef = x := by simpa using hx
  simp [results, h, Sem.run_bind, Result.andThen, ht', hu', hx', asAddr, hl]

/-- How the reference's Get ends. -/
def RGetEnd (w : World) (at_ : Nat) (Z : Except Int (Nat × List Int × Nat)) (e : Ending) (w' : World) : Prop :=
  Keeps w w' [] ∧ match Z with
    | .ok (G, l, m) => ∃ a c, e = .returned (.tuple #[.agg #[.int .i64 (G : Int), .slice a l.length c], .int .i64 ((at_ + m : Nat) : Int), .int .i64 0]) ∧ w'.ownsRow w.heap.size 3 1 (.slice a l.length c) l.length (l.map (.int .i64)) ∧ l.length ≤ 1300
    | .error n => n ≠ 0 ∧ e = .returned (.tuple #[.agg #[.int .i64 0, .slice none 0 0], .int .i64 (at_ : Int), .int .i64 n])

set_option maxRecDepth 100000 in
set_option maxHeartbeats 4000000 in
theorem rdget_any (at_ symbols : Nat) (log : Int) (v : Value) (B : List Int) (w : World) (hv : RdI .u8 w v B) (hl : B.length ≤ 100000) (hB : ∀ x ∈ B, 0 ≤ x ∧ x ≤ 255) (ha : at_ ≤ B.length) (hs : symbols ≤ 256) :
    Calls Tryz.prog 52 #[v, .int .i64 (at_ : Int), .int .i64 (symbols : Int), .int .i64 log] w (RGetEnd w at_ (descP (B.drop at_) symbols log)) := by
  obtain ⟨D, hD⟩ : ∃ D, B.drop at_ = D := ⟨_, rfl⟩
  obtain ⟨r0, hr0, rr0⟩ := sliceB_tail hv ha
  rw [hD] at rr0 ⊢
  have hDl : D.length ≤ 100000 := by rw [← hD, List.length_drop]; omega
  have HDN := Lib.hid (show at_ + D.length = B.length by rw [← hD, List.length_drop]; omega)
  have k0 := (Keeps.refl w []).alloc (.cells #[.int .i64 0, .slice none 0 0] 27)
  have b0 := Blk.new w #[.int .i64 0, .slice none 0 0] 27
  have HF := Lib.hid (rforward_any D _ r0 (rr0.keeps k0) hDl (fun x hx => hB x (by rw [← hD] at hx; exact List.mem_of_mem_drop hx)))
  obtain ⟨Z, hZ⟩ : ∃ Z, descP D symbols log = Z := ⟨_, rfl⟩
  rw [hZ]
  obtain ⟨A0, m, cp0, rfl, hm, -⟩ := hv.form
  have hRL : (rowBits D).length = 8 * D.length := rowBits_len D
  obtain ⟨RB, hRB⟩ : ∃ RB, rowBits D = RB := ⟨_, rfl⟩
  have ha5 : at_ ≤ 100000 := by omega
  unfold descP tabP at hZ
  rw [hRB] at hZ HF hRL
  have HRL := Lib.hid hRL
  clear hv hB rr0 hD hl hRB hm
  by_cases hA : 4 ≤ RB.length
  · rw [tk_ok hA] at hZ
    simp only at hZ
    have hvl := valL_lt (RB.take 4)
    have hlen : (RB.take 4).length = 4 := by rw [List.length_take]; omega
    rw [hlen] at hvl
    obtain ⟨n, hn⟩ : ∃ n, valL (RB.take 4) = n := ⟨_, rfl⟩
    have HF4 := Lib.hid (fun W Q G (fr : FR W Q G RB 0) => rfirst_ok Q G 0 4 RB W fr hA (by omega))
    rw [hn] at hvl hZ HF4
    have hn15 : n ≤ 15 := by omega
    by_cases hbad : log < (n : Int) + 1 ∨ 8 < n
    · rw [if_pos hbad] at hZ
      have HZ : Hid (Except.error 13 = Z) := Lib.hid hZ
      by_cases hb1 : log < (n : Int) + 1
      · clear hZ hA hvl hlen hn hbad
        go_enter Tryz.func52, Tryz.ntmps52
        go_wp2_with (first
          | (go_at_call 102; refine HF.out.mono ?_; rintro e w1 ⟨Q, G, rfl, hQ, hG, fr1, k1⟩; have HFR := Lib.hid (HF4.out w1 Q G fr1); have kk1 := k0.trans k1 (fun j hj _ => absurd hj (by simp)); have b1 := b0.keeps k1 (by simp); have KK1 := Lib.hid kk1; have B1 := Lib.hid b1; have hQ0 : w.heap.size < Q := (by simp only [World.size_alloc] at hQ; omega); have hG0 : w.heap.size < G := (by simp only [World.size_alloc] at hG; omega); clear HF4 fr1 k1 kk1 b1 hQ hG)
          | (go_at_call 103; refine HFR.out.mono ?_; rintro e w2 ⟨rfl, fr2, k2⟩; have FR2 := Lib.hid fr2; have KK2 := Lib.hid (KK1.out.trans k2 (fun j hj hl => by have := List.mem_singleton.1 hj; omega)); have B2 := Lib.hid (B1.out.keeps k2 (by simp; omega)); clear fr2 k2)
          | (refine wpList_store_blk rfl 27 _ _ rfl w.heap.size #[.int .i64 0, .slice none 0 0] rfl rfl _ _ B2.out tblr_size rfl (by simp [Value.oneCell']) ?_; intro W9 b9 k9; have B9 := Lib.hid b9; have K9 := Lib.hid k9; clear b9 k9))
        refine bodyPost_ret (v := .tuple #[.agg #[.int .i64 0, .slice none 0 0], .int .i64 (at_ : Int), .int .i64 13]) (res_cell_tmp2 rfl rfl rfl rfl (loadr_tbl B9.out)) rfl ⟨KK2.out.trans K9.out (fun j hj hl => by have := List.mem_singleton.1 hj; omega), ?_⟩
        rw [← HZ.out]
        exact ⟨by decide, rfl⟩
      · have hb2 : (8 : Int) < (n : Int) := by rcases hbad with h | h <;> omega
        clear hZ hA hvl hlen hn hbad
        go_enter Tryz.func52, Tryz.ntmps52
        go_wp2_with (first
          | (go_at_call 102; refine HF.out.mono ?_; rintro e w1 ⟨Q, G, rfl, hQ, hG, fr1, k1⟩; have HFR := Lib.hid (HF4.out w1 Q G fr1); have kk1 := k0.trans k1 (fun j hj _ => absurd hj (by simp)); have b1 := b0.keeps k1 (by simp); have KK1 := Lib.hid kk1; have B1 := Lib.hid b1; have hQ0 : w.heap.size < Q := (by simp only [World.size_alloc] at hQ; omega); have hG0 : w.heap.size < G := (by simp only [World.size_alloc] at hG; omega); clear HF4 fr1 k1 kk1 b1 hQ hG)
          | (go_at_call 103; refine HFR.out.mono ?_; rintro e w2 ⟨rfl, fr2, k2⟩; have FR2 := Lib.hid fr2; have KK2 := Lib.hid (KK1.out.trans k2 (fun j hj hl => by have := List.mem_singleton.1 hj; omega)); have B2 := Lib.hid (B1.out.keeps k2 (by simp; omega)); clear fr2 k2)
          | (refine wpList_store_blk rfl 27 _ _ rfl w.heap.size #[.int .i64 0, .slice none 0 0] rfl rfl _ _ B2.out tblr_size rfl (by simp [Value.oneCell']) ?_; intro W9 b9 k9; have B9 := Lib.hid b9; have K9 := Lib.hid k9; clear b9 k9))
        refine bodyPost_ret (v := .tuple #[.agg #[.int .i64 0, .slice none 0 0], .int .i64 (at_ : Int), .int .i64 13]) (res_cell_tmp2 rfl rfl rfl rfl (loadr_tbl B9.out)) rfl ⟨KK2.out.trans K9.out (fun j hj hl => by have := List.mem_singleton.1 hj; omega), ?_⟩
        rw [← HZ.out]
        exact ⟨by decide, rfl⟩
    · rw [if_neg hbad] at hZ
      have hb1 : ¬ log < (n : Int) + 1 := fun h => hbad (.inl h)
      have hb2 : ¬ (8 : Int) < (n : Int) := fun h => hbad (.inr (by omega))
      have hn8 : n ≤ 8 := by omega
      have HS := Lib.hid (fun W => rsize_any ((n : Int) + 1) W (by omega) (by omega))
      have hpw : (2 : Int) ^ ((n : Int) + 1).toNat = ((2 ^ (n + 1) : Nat) : Int) := by
        rw [show ((n : Int) + 1).toNat = n + 1 by omega]; simp
      rw [hpw] at HS
      have hp9 : 2 ^ (n + 1) ≤ 2 ^ 9 := Nat.pow_le_pow_right (by omega) (by omega)
      obtain ⟨X, hX⟩ : ∃ X : Nat, 2 ^ (n + 1) = X := ⟨_, rfl⟩
      rw [hX] at HS hZ hp9
      have hX5 : X ≤ 512 := by omega
      have hmin : min (symbols : Int) 256 = (symbols : Int) := by omega
      have HN := Lib.hid (fun W Q G (fr : FR W Q G (RB.drop 4) (0 + 4)) => rnorms_any Q G (0 + 4) X symbols (RB.drop 4) W fr hX5 hs)
      obtain ⟨Y, hY⟩ : ∃ Y, normsP symbols (symbols + 1) (RB.drop 4) X [] false = Y := ⟨_, rfl⟩
      rw [hY] at HN hZ
      clear hpw hp9 hX hvl hlen hn hbad hY
      cases Y with
      | error e0 =>
        simp only [tabOf] at hZ
        have HZ : Hid (Except.error e0 = Z) := Lib.hid hZ
        clear hZ hA
        go_enter Tryz.func52, Tryz.ntmps52
        go_wp2_with (first
          | (go_at_call 102; refine HF.out.mono ?_; rintro e w1 ⟨Q, G, rfl, hQ, hG, fr1, k1⟩; have HFR := Lib.hid (HF4.out w1 Q G fr1); have kk1 := k0.trans k1 (fun j hj _ => absurd hj (by simp)); have b1 := b0.keeps k1 (by simp); have KK1 := Lib.hid kk1; have B1 := Lib.hid b1; have hQ0 : w.heap.size < Q := (by simp only [World.size_alloc] at hQ; omega); have hG0 : w.heap.size < G := (by simp only [World.size_alloc] at hG; omega); clear HF4 fr1 k1 kk1 b1 hQ hG)
          | (go_at_call 103; refine HFR.out.mono ?_; rintro e w2 ⟨rfl, fr2, k2⟩; have FR2 := Lib.hid fr2; have KK2 := Lib.hid (KK1.out.trans k2 (fun j hj hl => by have := List.mem_singleton.1 hj; omega)); have B2 := Lib.hid (B1.out.keeps k2 (by simp; omega)); clear fr2 k2)
          | (go_at_call 77; refine (HS.out _).mono ?_; rintro e w9 ⟨rfl, rfl⟩)
          | (go_at_call 104; refine (HN.out w2 Q G FR2.out).mono ?_; rintro e w3 ⟨k3, hne, rfl⟩; have KK3 := Lib.hid (KK2.out.trans k3 (fun j hj hl => by have := List.mem_singleton.1 hj; omega)); have B3 := Lib.hid (B2.out.keeps k3 (by simp; omega)); clear k3; have hnb : (e0 == 0) = false := (by simpa using hne); have hne2 : e0 ≠ 0 := hne)
          | (refine wpList_store_blk rfl 27 _ _ rfl w.heap.size #[.int .i64 0, .slice none 0 0] rfl rfl _ _ B3.out tblr_size rfl (by simp [Value.oneCell']) ?_; intro W9 b9 k9; have B9 := Lib.hid b9; have K9 := Lib.hid k9; clear b9 k9))
        refine bodyPost_ret (v := .tuple #[.agg #[.int .i64 0, .slice none 0 0], .int .i64 (at_ : Int), .int .i64 e0]) (res_cell_tmp2 rfl rfl rfl rfl (loadr_tbl B9.out)) rfl ⟨KK3.out.trans K9.out (fun j hj hl => by have := List.mem_singleton.1 hj; omega), ?_⟩
        rw [← HZ.out]
        exact ⟨hne, rfl⟩
      | ok y =>
        obtain ⟨o, L2⟩ := y
        simp only [tabOf] at hZ
        have HW := Lib.hid (fun W Q G r (fr : FR W Q G L2 r) (hr : r + L2.length = 8 * D.length) => rwhole_any Q G r D.length L2 W fr hr)
        obtain ⟨V, hV⟩ : ∃ V, valL (L2.take (L2.length % 8)) = V := ⟨_, rfl⟩
        rw [hV] at HW hZ
        by_cases hV0 : V = 0
        · subst hV0
          rw [if_pos rfl] at hZ
          have HZ := Lib.hid hZ
          obtain ⟨K, hK⟩ : ∃ K, D.length - L2.length / 8 = K := ⟨_, rfl⟩
          rw [hK] at HW HZ
          have hK5 : K ≤ 100000 := by omega
          have HA4 := Lib.hid hA
          clear hZ hA hV hK
          have HW14 := Lib.hid (fun W Q G r (fr : FR W Q G L2 r) (hr : r + L2.length = 8 * D.length) => show Calls Tryz.prog 105 #[.pointer (some ⟨Q, 0, none⟩)] W (fun e w' => Keeps W w' [Q] ∧ e = .returned (.tuple #[.int .i64 (K : Int), .int .i64 0])) from (HW.out W Q G r fr hr).mono (fun e w' h => ⟨h.1, h.2.elim (fun h => h.2) (fun h => absurd rfl h.1)⟩))
          clear HW
          go_enter Tryz.func52, Tryz.ntmps52
          go_wp2_with (first
            | (go_at_call 102; refine HF.out.mono ?_; rintro e w1 ⟨Q, G, rfl, hQ, hG, fr1, k1⟩; have HFR := Lib.hid (HF4.out w1 Q G fr1); have kk1 := k0.trans k1 (fun j hj _ => absurd hj (by simp)); have b1 := b0.keeps k1 (by simp); have KK1 := Lib.hid kk1; have B1 := Lib.hid b1; have hQ0 : w.heap.size < Q := (by simp only [World.size_alloc] at hQ; omega); have hG0 : w.heap.size < G := (by simp only [World.size_alloc] at hG; omega); clear HF4 fr1 k1 kk1 b1 hQ hG)
            | (go_at_call 103; refine HFR.out.mono ?_; rintro e w2 ⟨rfl, fr2, k2⟩; have FR2 := Lib.hid fr2; have KK2 := Lib.hid (KK1.out.trans k2 (fun j hj hl => by have := List.mem_singleton.1 hj; omega)); have B2 := Lib.hid (B1.out.keeps k2 (by simp; omega)); clear fr2 k2)
            | (go_at_call 77; refine (HS.out _).mono ?_; rintro e w9 ⟨rfl, rfl⟩)
            | (go_at_call 104; refine (HN.out w2 Q G FR2.out).mono ?_; rintro e w3 ⟨k3, a, c, rfl, own3, hol, r3, fr3, hr3⟩; have KK3 := Lib.hid (KK2.out.trans k3 (fun j hj hl => by have := List.mem_singleton.1 hj; omega)); have B3 := Lib.hid (B2.out.keeps k3 (by simp; omega)); have HWW := Lib.hid (HW14.out w3 Q G r3 fr3 (by have := HRL.out; have := HA4.out; simp only [List.length_drop] at hr3; omega)); have OW3 := Lib.hid own3; have HOL := Lib.hid hol; have hs2 := KK2.out.size; clear HW14 k3 own3 hol fr3 hr3)
            | (go_at_call 105; refine HWW.out.mono ?_; rintro e w4 ⟨k4, rfl⟩; have KK4 := Lib.hid (KK3.out.trans k4 (fun j hj hl => by have := List.mem_singleton.1 hj; omega)); have B4 := Lib.hid (B3.out.keeps k4 (by simp; omega)); have OW4 := Lib.hid (own_old OW3.out k4 (fun x hx hm => by have := List.mem_singleton.1 hm; have := (OW3.out.lt x hx).1; have := FR2.out.lt; omega)); have hs4 := KK3.out.size; clear k4)
            | (refine wpList_store_blk rfl 27 _ _ rfl w.heap.size #[.int .i64 ((n : Int) + 1), .slice a o.length c] rfl rfl _ _ B4.out tblr_size rfl (by simp [Value.oneCell']) ?_; intro W9 b9 k9; have B9 := Lib.hid b9; have K9 := Lib.hid k9; clear b9 k9))
          refine bodyPost_ret (v := .tuple #[.agg #[.int .i64 ((n : Int) + 1), .slice a o.length c], .int .i64 ((at_ : Int) + (K : Int)), .int .i64 0]) (res_cell_tmp2 rfl rfl rfl rfl (loadr_tbl B9.out)) rfl ⟨KK4.out.trans K9.out (fun j hj hl => by have := List.mem_singleton.1 hj; omega), ?_⟩
          rw [← HZ.out]
          have hkz := k0.size
          refine ⟨a, c, rfl, ?_, HOL.out⟩
          have h2s : w.heap.size < w2.heap.size := by have := B2.out.lt; exact this
          exact own_base (own_old OW4.out K9.out (fun x hx hm => by have := List.mem_singleton.1 hm; have := (OW4.out.lt x hx).1; omega)) (by omega)
        · rw [if_neg hV0] at hZ
          have HZ : Hid (Except.error 14 = Z) := Lib.hid hZ
          have HA4 := Lib.hid hA
          clear hZ hA hV
          have HW14 := Lib.hid (fun W Q G r (fr : FR W Q G L2 r) (hr : r + L2.length = 8 * D.length) => show Calls Tryz.prog 105 #[.pointer (some ⟨Q, 0, none⟩)] W (fun e w' => Keeps W w' [Q] ∧ e = .returned (.tuple #[.int .i64 0, .int .i64 14])) from (HW.out W Q G r fr hr).mono (fun e w' h => ⟨h.1, h.2.elim (fun h => absurd h.1 hV0) (fun h => h.2)⟩))
          clear hV0 HW
          go_enter Tryz.func52, Tryz.ntmps52
          go_wp2_with (first
            | (go_at_call 102; refine HF.out.mono ?_; rintro e w1 ⟨Q, G, rfl, hQ, hG, fr1, k1⟩; have HFR := Lib.hid (HF4.out w1 Q G fr1); have kk1 := k0.trans k1 (fun j hj _ => absurd hj (by simp)); have b1 := b0.keeps k1 (by simp); have KK1 := Lib.hid kk1; have B1 := Lib.hid b1; have hQ0 : w.heap.size < Q := (by simp only [World.size_alloc] at hQ; omega); have hG0 : w.heap.size < G := (by simp only [World.size_alloc] at hG; omega); clear HF4 fr1 k1 kk1 b1 hQ hG)
            | (go_at_call 103; refine HFR.out.mono ?_; rintro e w2 ⟨rfl, fr2, k2⟩; have FR2 := Lib.hid fr2; have KK2 := Lib.hid (KK1.out.trans k2 (fun j hj hl => by have := List.mem_singleton.1 hj; omega)); have B2 := Lib.hid (B1.out.keeps k2 (by simp; omega)); clear fr2 k2)
            | (go_at_call 77; refine (HS.out _).mono ?_; rintro e w9 ⟨rfl, rfl⟩)
            | (go_at_call 104; refine (HN.out w2 Q G FR2.out).mono ?_; rintro e w3 ⟨k3, a, c, rfl, own3, hol, r3, fr3, hr3⟩; have KK3 := Lib.hid (KK2.out.trans k3 (fun j hj hl => by have := List.mem_singleton.1 hj; omega)); have B3 := Lib.hid (B2.out.keeps k3 (by simp; omega)); have HWW := Lib.hid (HW14.out w3 Q G r3 fr3 (by have := HRL.out; have := HA4.out; simp only [List.length_drop] at hr3; omega)); have OW3 := Lib.hid own3; have HOL := Lib.hid hol; have hs2 := KK2.out.size; clear HW14 k3 own3 hol fr3 hr3)
            | (go_at_call 105; refine HWW.out.mono ?_; rintro e w4 ⟨k4, rfl⟩; have KK4 := Lib.hid (KK3.out.trans k4 (fun j hj hl => by have := List.mem_singleton.1 hj; omega)); have B4 := Lib.hid (B3.out.keeps k4 (by simp; omega)); clear k4)
            | (refine wpList_store_blk rfl 27 _ _ rfl w.heap.size #[.int .i64 0, .slice none 0 0] rfl rfl _ _ B4.out tblr_size rfl (by simp [Value.oneCell']) ?_; intro W9 b9 k9; have B9 := Lib.hid b9; have K9 := Lib.hid k9; clear b9 k9))
          refine bodyPost_ret (v := .tuple #[.agg #[.int .i64 0, .slice none 0 0], .int .i64 (at_ : Int), .int .i64 14]) (res_cell_tmp2 rfl rfl rfl rfl (loadr_tbl B9.out)) rfl ⟨KK4.out.trans K9.out (fun j hj hl => by have := List.mem_singleton.1 hj; omega), ?_⟩
          rw [← HZ.out]
          exact ⟨by decide, rfl⟩
  · rw [tk_no (by omega)] at hZ
    simp only at hZ
    have HZ : Hid (Except.error 3 = Z) := Lib.hid hZ
    have HF4 := Lib.hid (fun W Q G (fr : FR W Q G RB 0) => rfirst_no Q G 0 4 RB W fr (by omega) (by omega))
    clear hZ hA
    go_enter Tryz.func52, Tryz.ntmps52
    go_wp2_with (first
      | (go_at_call 102; refine HF.out.mono ?_; rintro e w1 ⟨Q, G, rfl, hQ, hG, fr1, k1⟩; have HFR := Lib.hid (HF4.out w1 Q G fr1); have kk1 := k0.trans k1 (fun j hj _ => absurd hj (by simp)); have b1 := b0.keeps k1 (by simp); have KK1 := Lib.hid kk1; have B1 := Lib.hid b1; clear HF4 fr1 k1 kk1 b1)
      | (go_at_call 103; refine HFR.out.mono ?_; rintro e w2 ⟨rfl, rfl⟩)
      | (refine wpList_store_blk rfl 27 _ _ rfl w.heap.size #[.int .i64 0, .slice none 0 0] rfl rfl _ _ B1.out tblr_size rfl (by simp [Value.oneCell']) ?_; intro W9 b9 k9; have B9 := Lib.hid b9; have K9 := Lib.hid k9; clear b9 k9))
    refine bodyPost_ret (v := .tuple #[.agg #[.int .i64 0, .slice none 0 0], .int .i64 (at_ : Int), .int .i64 3]) (res_cell_tmp2 rfl rfl rfl rfl (loadr_tbl B9.out)) rfl ⟨KK1.out.trans K9.out (fun j hj hl => by have := List.mem_singleton.1 hj; omega), ?_⟩
    rw [← HZ.out]
    exact ⟨by decide, rfl⟩
end

section
set_option linter.unusedVariables false

theorem descP_app (A Z : List Int) (symbols : Nat) (log : Int) (hs : symbols ≤ 256) (hA : 1024 ≤ A.length) : descP (A ++ Z) symbols log = descP A symbols log := by
  have hl := rowBits_len A
  have hz := rowBits_len Z
  unfold descP tabP
  rw [rowBits_append, tk_app (by omega)]
  cases ht : tk (rowBits A) 4 with
  | error e => rfl
  | ok x =>
    obtain ⟨n, L1⟩ := x
    obtain ⟨-, h2⟩ := tk_lt ht
    simp only [more]
    by_cases hb : log < (n : Int) + 1 ∨ 8 < n
    · rw [if_pos hb, if_pos hb]
    · rw [if_neg hb, if_neg hb]
      have hn : n ≤ 8 := by omega
      have hp : 2 ^ (n + 1) ≤ 2 ^ 9 := Nat.pow_le_pow_right (by omega) (by omega)
      rw [normsP_app (by omega) (by simp only [List.length_nil]; omega)]
      cases normsP symbols (symbols + 1) L1 (2 ^ (n + 1)) [] false with
      | error e => rfl
      | ok y =>
        obtain ⟨l, L2⟩ := y
        simp only [more, tabOf]
        have e1 : (L2 ++ rowBits Z).length % 8 = L2.length % 8 := by rw [List.length_append, hz]; omega
        have e2 : (A ++ Z).length - (L2 ++ rowBits Z).length / 8 = A.length - L2.length / 8 := by rw [List.length_append, List.length_append, hz]; omega
        rw [e1, e2, List.take_append_of_le_length (by omega)]

theorem descP_cut (D : List Int) (symbols : Nat) (log : Int) (hs : symbols ≤ 256) : descP (D.take 1024) symbols log = descP D symbols log := by
  by_cases h : D.length ≤ 1024
  · rw [List.take_of_length_le h]
  · have := descP_app (D.take 1024) (D.drop 1024) symbols log hs (by rw [List.length_take]; omega)
    rw [List.take_append_drop] at this
    exact this.symm
end

end Go.Proofs.YtcmagccfagijlaaGreat
