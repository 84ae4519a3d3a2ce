/-
  Walks over the references of package limit: Sum, Fits.
  Walks over the references of package limit: Cost.
  Walks over the references of package limit: Flat.
-/
import Derived.Test.YthjbngnihcmedaaKA
namespace Go.Proofs.Ythjbngnihcmedaa
section
set_option linter.unusedVariables false
set_option linter.unusedSimpArgs false
set_option linter.unusedSectionVars false
open Go.RowKit

/-- The sum of Kraft over the first k symbols. -/
def kraftT (l : List Int) (k : Nat) : Nat := kraftS l (usedL (l.take k))
theorem kraftT_zero (l : List Int) : kraftT l 0 = 0 := rfl
theorem kraftT_all {l : List Int} {k : Nat} (h : l.length ≤ k) : kraftT l k = kraftN l := by rw [kraftT, kraftN, List.take_of_length_le h]
theorem kraftT_step {l : List Int} {k : Nat} {x : Int} (h : l[k]? = some x) : kraftT l (k + 1) = kraftT l k + (if 0 < x then 2 ^ (60 - x.toNat) else 0) := by
  have hk : (l.take k).length = k := by have := (List.getElem?_eq_some_iff.1 h).1; simp; omega
  unfold kraftT
  rw [take_next h, usedL_snoc, kraftS_append, hk]
  split
  · simp [kraftS, keyC_at h]
  · simp [kraftS]
def satK (n : Nat) : Int := if 1152921504606846977 < (n : Int) then 1152921504606846977 else n

theorem sat_step {T X : Nat} (h1 : 1 ≤ X) (h2 : X ≤ 60) : min 1152921504606846977 (IntKind.u64.wrap (satK T + 1152921504606846976 / 2 ^ X)) = satK (T + 2 ^ (60 - X)) := by
  have e1 : (1152921504606846976 : Int) / 2 ^ X = ((2 ^ (60 - X) : Nat) : Int) := by
    have h : (1152921504606846976 : Nat) = 2 ^ (60 - X) * 2 ^ X := by
      rw [← Nat.pow_add, show 60 - X + X = 60 by omega]
    have h3 : (1152921504606846976 : Nat) / 2 ^ X = 2 ^ (60 - X) := by
      rw [h, Nat.mul_div_cancel _ (Nat.two_pow_pos X)]
    have h4 : ((2 : Int) ^ X) = ((2 ^ X : Nat) : Int) := by simp
    rw [h4, ← h3]
    rfl
  have hb := (pow60 h1 h2).2
  rw [e1]
  clear e1
  generalize 2 ^ (60 - X) = P at *
  have hs : 0 ≤ satK T ∧ satK T ≤ 1152921504606846977 := by unfold satK; split <;> omega
  rw [IntWalk.u64_in _ (by omega)]
  unfold satK at *
  push_cast
  split <;> split <;> omega

set_option maxHeartbeats 1000000 in
theorem r_sum (v : Value) (l : List Int) (w : World) (hv : RdI .i64 w v l) (hr : withinL 60 l = true) :
    Calls Try.prog 43 #[v] w fun e w' => e = .returned (.int .u64 (satK (kraftN l))) ∧ w' = w := by
  obtain ⟨A0, n, cp0, rfl, hnl, -⟩ := hv.form
  have HV := Lib.hid hv
  have HN := Lib.hid hnl
  have hn' : n ≤ 256 := by have := (withinL_iff.1 hr).1; omega
  have HR := Lib.hid hr
  clear hv hnl hr
  go_enter Try.func43, Try.ntmps43
  go_wp2_with fail
  go_loop [4, 5] (fun s i => ∃ k : Nat, k ≤ n ∧ i = .int .i64 k ∧ s = .int .u64 (satK (kraftT l k))) (fun _ i => n - (intOf i).toNat)
  case atStart => exact ⟨0, Nat.zero_le _, rfl, rfl⟩
  case round =>
    obtain ⟨k, hk, rfl, rfl⟩ := hrel
    by_cases hlt : k < n
    · obtain ⟨x, hx⟩ : ∃ x, l[k]? = some x := ⟨_, List.getElem?_eq_getElem (by have := HN.out; omega)⟩
      obtain ⟨b, o, rfl, hb, hc⟩ := HV.out.at hx
      have hxb := (withinL_iff.1 HR.out).2 x (List.mem_of_getElem? hx)
      have hcap := HV.out.cap
      have hkn : (k : Int) < (n : Int) := by omega
      have HST := Lib.hid (kraftT_step hx)
      have hs1 : 0 ≤ satK (kraftT l k) ∧ satK (kraftT l k) ≤ 1152921504606846977 := by unfold satK; split <;> omega
      obtain ⟨S, hS⟩ : ∃ S, S = satK (kraftT l k) := ⟨_, rfl⟩
      have HS := Lib.hid hS
      rw [← hS] at hs1 ⊢
      clear hx hS
      by_cases h0 : 0 < x
      · obtain ⟨X, rfl⟩ : ∃ X : Nat, x = (X : Int) := ⟨x.toNat, by omega⟩
        have hX1 : 1 ≤ X := by omega
        have hX2 : X ≤ 60 := by omega
        have HF := Lib.hid (sat_step (T := kraftT l k) hX1 hX2)
        clear hX1 hX2
        go_wp2_with fail
        go_round
        case rel => exact ⟨k + 1, by omega, by go_num, by rw [HST.out, if_pos h0, HS.out, HF.out, Int.toNat_natCast]⟩
        case measure => simp [intOf]; omega
      · have hd : decide (0 < x) = false := by simpa using h0
        go_wp2_with fail
        go_round
        case rel => exact ⟨k + 1, by omega, by go_num, by rw [HST.out, if_neg h0, Nat.add_zero, HS.out]⟩
        case measure => simp [intOf]; omega
    · have : k = n := by omega
      subst this
      go_wp2_with fail
      go_ret
      rw [kraftT_all (by have := HN.out; omega)]
      exact ⟨rfl, rfl⟩

theorem satK_le (n : Nat) : decide (satK n ≤ 1152921504606846976) = decide (n ≤ 1152921504606846976) := by
  rw [Bool.eq_iff_iff]; unfold satK; simp; split <;> omega
theorem satK_eq (n : Nat) : (satK n == 1152921504606846976) = decide (n = 1152921504606846976) := by
  rw [Bool.eq_iff_iff]; unfold satK; simp; split <;> omega

set_option maxHeartbeats 1000000 in
theorem r_fits (v : Value) (l : List Int) (w : World) (hv : RdI .i64 w v l) (hn : l.length ≤ 1000000) :
    Calls Try.prog 19 #[v] w fun e w' => e = .returned (.tuple #[.bool (fitsL l), .bool (fullL l)]) ∧ w' = w := by
  have HR := Lib.hid (r_right13 v l w hv hn)
  cases h60 : withinL 60 l with
  | false =>
    have e1 : fitsL l = false := by rw [fitsL, h60]; rfl
    have e2 : fullL l = false := by rw [fullL, e1]; rfl
    rw [e1, e2]
    rw [h60] at HR
    obtain ⟨A0, n, cp0, rfl, hnl, -⟩ := hv.form
    clear hv hnl e1 e2 h60
    go_enter Try.func19, Try.ntmps19
    go_wp2_with (first | (go_at_call 41; refine HR.out.mono ?_; rintro e w' ⟨rfl, rfl⟩))
    go_ret2
    exact ⟨rfl, rfl⟩
  | true =>
    have HS := Lib.hid (r_sum v l w hv h60)
    have e1 : fitsL l = decide (satK (kraftN l) ≤ 1152921504606846976) := by rw [fitsL, h60, satK_le]; rfl
    have e2 : fullL l = (satK (kraftN l) == 1152921504606846976) := by
      rw [satK_eq, fullL, e1, satK_le, Bool.eq_iff_iff]; simp; omega
    rw [e1, e2]
    rw [h60] at HR
    obtain ⟨A0, n, cp0, rfl, hnl, -⟩ := hv.form
    generalize satK (kraftN l) = S at *
    clear hv hnl e1 e2 h60
    go_enter Try.func19, Try.ntmps19
    go_wp2_with (first | (go_at_call 41; refine HR.out.mono ?_; rintro e w' ⟨rfl, rfl⟩) | (go_at_call 43; refine HS.out.mono ?_; rintro e w' ⟨rfl, rfl⟩))
    go_ret2
    exact ⟨rfl, rfl⟩
end

section
set_option linter.unusedVariables false
set_option linter.unusedSimpArgs false
set_option linter.unusedSectionVars false
open Go.RowKit

/-- The cost of the first k symbols. -/
def costT (x y : List Int) (k : Nat) : Int := costS x y (usedL (x.take k))
theorem costT_all {x y : List Int} {k : Nat} (h : x.length ≤ k) : costT x y k = costOut x y := by rw [costT, costOut, List.take_of_length_le h]
theorem costT_step {x y : List Int} {k : Nat} {z : Int} (h : x[k]? = some z) (h0 : 0 ≤ z) : costT x y (k + 1) = costT x y k + z * atL y k := by
  have hk : (x.take k).length = k := by have := (List.getElem?_eq_some_iff.1 h).1; simp; omega
  unfold costT
  rw [take_next h, usedL_snoc, hk]
  by_cases hz : 0 < z
  · rw [if_pos hz, costS_snoc, keyC_at h, Int.toNat_natCast]
  · have : z = 0 := by omega
    subst this
    rw [if_neg hz, List.append_nil, Int.zero_mul, Int.add_zero]
/-- Every used symbol among the first k has a code word. -/
def longT (x y : List Int) (k : Nat) : Bool := (usedL (x.take k)).all fun s => decide (0 < atL y s.toNat)
theorem longT_step {x y : List Int} {k : Nat} {z : Int} (h : x[k]? = some z) : longT x y (k + 1) = (longT x y k && !(decide (0 < z) && decide (¬ 0 < atL y k))) := by
  have hk : (x.take k).length = k := by have := (List.getElem?_eq_some_iff.1 h).1; simp; omega
  unfold longT
  rw [take_next h, usedL_snoc, hk, List.all_append]
  by_cases hz : 0 < z
  · rw [if_pos hz]
    congr 1
    rw [Bool.eq_iff_iff]; simp [hz]
  · rw [if_neg hz]; simp [hz]
theorem longT_all {x y : List Int} {k : Nat} (h : x.length ≤ k) : longT x y k = longL x y := by rw [longT, longL, List.take_of_length_le h]
theorem usedF_pre {i : Nat} {a b : List Int} : usedF i (a ++ b) = usedF i a ++ usedF (i + a.length) b := by
  induction a generalizing i with
  | nil => simp [usedF]
  | cons c a ih =>
    simp only [List.cons_append, usedF, ih, List.length_cons]
    rw [show i + 1 + a.length = i + (a.length + 1) by omega]
    split <;> simp
theorem longT_false {x y : List Int} {k : Nat} (h : longT x y k = false) : longL x y = false := by
  have e : usedL x = usedL (x.take k) ++ usedF (x.take k).length (x.drop k) := by
    have := usedF_pre (i := 0) (a := x.take k) (b := x.drop k)
    rw [List.take_append_drop, Nat.zero_add] at this
    exact this
  unfold longL
  unfold longT at h
  rw [e, List.all_append, h]; rfl
theorem costT_bd {x y : List Int} (hx : rightL x = true) (hy : withinL 60 y = true) : ∀ k, 0 ≤ costT x y k ∧ costT x y k ≤ 128849018880 * (k : Int)
  | 0 => by simp [costT, usedL, usedF, costS]
  | k + 1 => by
    have ih := costT_bd hx hy k
    cases h : x[k]? with
    | none =>
      have hl : x.length ≤ k := List.getElem?_eq_none_iff.1 h
      rw [costT_all (by omega), ← costT_all hl]
      omega
    | some z =>
      have hz := right_get hx h
      rw [costT_step h hz.1]
      obtain ⟨a1, a2⟩ := atL_bd hy k
      have m1 : 0 ≤ z * atL y k := Int.mul_nonneg hz.1 a1
      have m2 : z * atL y k ≤ 2147483648 * 60 := Int.mul_le_mul hz.2 a2 a1 (by decide)
      omega

def RefCost (w : World) (c E : Int) (e : Ending) (w' : World) : Prop := e = .returned (.tuple #[.int .i64 c, .int .i64 E]) ∧ ∃ m, w' = w.drewN m

set_option maxHeartbeats 2000000 in
theorem r_cost_fine (vx vy : Value) (x y : List Int) (w : World) (hx : RdI .i64 w vx x) (hy : RdI .i64 w vy y) (hr : rightL x = true) (h60 : withinL 60 y = true) :
    Calls Try.prog 18 #[vx, vy] w (RefCost w (if longL x y then costOut x y else 0) (if longL x y then 0 else 18)) := by
  have hxl := (rightL_iff.1 hr).1
  have hyl := (withinL_iff.1 h60).1
  have R1 := Lib.hid (r_right vx x w hx (by omega))
  have R2 := Lib.hid (r_right13 vy y w hy (by omega))
  rw [hr] at R1
  rw [h60] at R2
  have RAT := Lib.hid (fun (k : Nat) (wr : World) (kk : Keeps w wr []) => r_at13 vy y k wr (hy.keeps kk) (by omega))
  have HB := Lib.hid (costT_bd (x := x) (y := y) hr h60)
  have HAB := Lib.hid (fun k => atL_bd h60 k)
  have HR := Lib.hid hr
  have HV := Lib.hid hx
  obtain ⟨A0, n, cp0, rfl, hnl, -⟩ := hx.form
  obtain ⟨A1, n1, cp1, rfl, hnl1, -⟩ := hy.form
  have HN := Lib.hid hnl
  have hn' : n ≤ 256 := by omega
  obtain ⟨C, hC⟩ : ∃ C, C = if longL x y then costOut x y else 0 := ⟨_, rfl⟩
  obtain ⟨E, hE⟩ : ∃ E : Int, E = if longL x y then 0 else 18 := ⟨_, rfl⟩
  rw [← hC, ← hE]
  have HC := Lib.hid hC
  have HE := Lib.hid hE
  clear hx hy hr h60 hxl hyl hnl hnl1 hC hE
  go_enter Try.func18, Try.ntmps18
  go_wp2_with (first | (go_at_call 11; refine R1.out.mono ?_; rintro e w' ⟨rfl, hw⟩; subst w') | (go_at_call 41; refine R2.out.mono ?_; rintro e w' ⟨rfl, hw⟩; subst w'))
  go_loopw [6, 7] (fun s i wr => ∃ k : Nat, k ≤ n ∧ i = .int .i64 k ∧ s = .int .i64 (costT x y k) ∧ Hid (longT x y k = true) ∧ Hid (∃ m, wr = w.drewN m)) (fun _ i _ => n - (intOf i).toNat)
  case atStart => exact ⟨0, Nat.zero_le _, rfl, rfl, rfl, ⟨0, rfl⟩⟩
  case round =>
    obtain ⟨k, hk, rfl, rfl, hlg, hwd⟩ := hrel
    have hkw : Keeps w wr [] := by obtain ⟨m, rfl⟩ := hwd.out; exact (Keeps.refl w []).drewN m
    have HNX : Hid (∀ q, ∃ m, wr.drewN q = w.drewN m) := by obtain ⟨m, rfl⟩ := hwd.out; exact fun q => ⟨m + q, by simp⟩
    clear R1 R2
    by_cases hlt : k < n
    · obtain ⟨z, hz⟩ : ∃ z, x[k]? = some z := ⟨_, List.getElem?_eq_getElem (by have := HN.out; omega)⟩
      obtain ⟨b, o, rfl, hb, hc⟩ := (HV.out.keeps hkw).at hz
      have hzb := right_get HR.out hz
      have hcap := HV.out.cap
      have hkn : (k : Int) < (n : Int) := by omega
      have hk0 : (0 : Int) ≤ (k : Int) := Int.natCast_nonneg _
      have HST := Lib.hid (costT_step (y := y) hz hzb.1)
      have HLS := Lib.hid (longT_step (y := y) hz)
      have hb1 := HB.out k
      have hab := HAB.out k
      have G1 := Lib.hid (fun nd => RAT.out k (wr.drewN nd) (hkw.drewN nd))
      have G0 := Lib.hid (RAT.out k wr hkw)
      have HAT : Hid (atL y k = atL y k) := rfl
      obtain ⟨T, hT⟩ : ∃ T, T = costT x y k := ⟨_, rfl⟩
      obtain ⟨a, ha⟩ : ∃ a, a = atL y k := ⟨_, rfl⟩
      have HA := Lib.hid ha
      have HT := Lib.hid hT
      rw [← hT] at hb1 ⊢
      rw [← ha] at hab G1 G0
      clear hz hT ha HAT RAT hkw
      have hm1 : 0 ≤ z * a := Int.mul_nonneg hzb.1 hab.1
      have hm2 : z * a ≤ 2147483648 * 60 := Int.mul_le_mul hzb.2 hab.2 hab.1 (by decide)
      have wm : IntKind.i64.wrap (z * a) = z * a := IntWalk.i64_in _ (by omega)
      have wa : IntKind.i64.wrap (T + z * a) = T + z * a := IntWalk.i64_in _ (by omega)
      have WM := Lib.hid wm
      have WA := Lib.hid wa
      clear wm wa hm1 hm2
      by_cases h0 : 0 < z
      · by_cases ha0 : a = 0
        · subst ha0
          have hl2 : longL x y = false := longT_false (k := k + 1) (by rw [HLS.out, ← HA.out]; simp [h0])
          have hE2 : E = 18 := by rw [HE.out, hl2]; rfl
          have hC2 : C = 0 := by rw [HC.out, hl2]; rfl
          subst hE2 hC2
          clear HE HC hl2
          go_wp2_with (first | (go_at_call 42; refine G0.out.mono ?_; rintro e w' ⟨rfl, hw⟩; subst w'))
          go_ret2
          exact ⟨rfl, hwd.out⟩
        · have hd2 : (a == 0) = false := by simpa using ha0
          have NL : Hid (longT x y (k + 1) = true) := by show _ = _; rw [HLS.out, hlg.out, ← HA.out]; simp; omega
          have w1 := WM.out
          have w2 := WA.out
          go_wp2_with (first | (go_at_call 42; refine G0.out.mono ?_; rintro e w' ⟨rfl, hw⟩; subst w'))
          go_quiet ((go_at_call 42; exact Calls.quiet_of_same (G1.out _)))
          go_wp2_with fail
          go_roundw
          case rel => exact ⟨k + 1, by omega, by go_num, by rw [HST.out, ← HA.out, ← HT.out], NL, HNX.out nq⟩
          case measure => simp [intOf]; omega
      · have hd : decide (0 < z) = false := by simpa using h0
        have NL : Hid (longT x y (k + 1) = true) := by show _ = _; rw [HLS.out, hlg.out]; simp [h0]
        have w1 := WM.out
        have w2 := WA.out
        go_wp2_with fail
        go_quiet ((go_at_call 42; exact Calls.quiet_of_same (G1.out _)))
        go_wp2_with fail
        go_roundw
        case rel => exact ⟨k + 1, by omega, by go_num, by rw [HST.out, ← HA.out, ← HT.out], NL, HNX.out nq⟩
        case measure => simp [intOf]; omega
    · have : k = n := by omega
      subst this
      have hl2 : longL x y = true := by rw [← longT_all (k := k) (by have := HN.out; omega)]; exact hlg.out
      have hE2 : E = 0 := by rw [HE.out, hl2]; rfl
      have hC2 : C = costT x y k := by rw [HC.out, hl2, costT_all (by have := HN.out; omega)]; rfl
      subst hE2 hC2
      clear HE HC hl2
      go_wp2_with fail
      go_ret2
      exact ⟨rfl, hwd.out⟩

set_option maxHeartbeats 1000000 in
theorem r_cost_bad (vx vy : Value) (x y : List Int) (w : World) (hx : RdI .i64 w vx x) (hy : RdI .i64 w vy y) (hn : x.length ≤ 1000000) (hn1 : y.length ≤ 1000000) (hr : rightL x = false ∨ rightL x = true ∧ withinL 60 y = false) :
    Calls Try.prog 18 #[vx, vy] w (RefCost w 0 2) := by
  have R1 := Lib.hid (r_right vx x w hx hn)
  have R2 := Lib.hid (r_right13 vy y w hy hn1)
  obtain ⟨A0, n, cp0, rfl, hnl, -⟩ := hx.form
  obtain ⟨A1, n1, cp1, rfl, hnl1, -⟩ := hy.form
  clear hx hy hnl hnl1
  rcases hr with h1 | ⟨h1, h2⟩
  · rw [h1] at R1
    clear R2 h1
    go_enter Try.func18, Try.ntmps18
    go_wp2_with (first | (go_at_call 11; refine R1.out.mono ?_; rintro e w' ⟨rfl, hw⟩; subst w'))
    go_ret2
    exact ⟨rfl, 0, rfl⟩
  · rw [h1] at R1
    rw [h2] at R2
    clear h1 h2
    go_enter Try.func18, Try.ntmps18
    go_wp2_with (first | (go_at_call 11; refine R1.out.mono ?_; rintro e w' ⟨rfl, hw⟩; subst w') | (go_at_call 41; refine R2.out.mono ?_; rintro e w' ⟨rfl, hw⟩; subst w'))
    go_ret2
    exact ⟨rfl, 0, rfl⟩

theorem r_cost (vx vy : Value) (x y : List Int) (w : World) (hx : RdI .i64 w vx x) (hy : RdI .i64 w vy y) (hn : x.length ≤ 1000000) (hn1 : y.length ≤ 1000000) :
    Calls Try.prog 18 #[vx, vy] w (RefCost w (if costErr x y = 0 then costOut x y else 0) (costErr x y)) := by
  cases hr : rightL x with
  | false =>
    have e : costErr x y = 2 := by simp [costErr, hr]
    rw [e, if_neg (by decide)]
    exact r_cost_bad vx vy x y w hx hy hn hn1 (.inl hr)
  | true =>
    cases h60 : withinL 60 y with
    | false =>
      have e : costErr x y = 2 := by simp [costErr, h60]
      rw [e, if_neg (by decide)]
      exact r_cost_bad vx vy x y w hx hy hn hn1 (.inr ⟨hr, h60⟩)
    | true =>
      have G := r_cost_fine vx vy x y w hx hy hr h60
      have e : costErr x y = if longL x y then 0 else 18 := by simp [costErr, hr, h60]
      rw [e]
      cases hl : longL x y with
      | true => rw [hl] at G; simpa using G
      | false => rw [hl] at G; simpa using G
end

section
set_option linter.unusedVariables false
set_option linter.unusedSimpArgs false
set_option linter.unusedSectionVars false
open Go.RowKit

def RefList (w : World) (L : List Int) (E : Int) (e : Ending) (w' : World) : Prop :=
  ∃ v, e = .returned (.tuple #[v, .int .i64 E]) ∧ RdI .i64 w' v L ∧ (∀ ad n c, v = .slice (some ad) n c → w.heap.size ≤ ad.block) ∧ Keeps w w' []

set_option maxHeartbeats 2000000 in
theorem r_flat_arg (n m : Int) (w : World) (h : n < 0 ∨ 256 < n ∨ m < 1 ∨ 11 < m) : Calls Try.prog 24 #[.int .i64 n, .int .i64 m] w (RefList w [] 2) := by
  by_cases a : n < 0
  · clear h
    go_enter Try.func24, Try.ntmps24
    go_wp2_with fail
    go_ret2
    exact ⟨_, rfl, RdI.nil, (fun ad n c h => by cases h), Keeps.refl _ _⟩
  · have d1 : decide (n < 0) = false := decide_eq_false a
    by_cases b : 256 < n
    · clear h
      go_enter Try.func24, Try.ntmps24
      go_wp2_with fail
      go_ret2
      exact ⟨_, rfl, RdI.nil, (fun ad n c h => by cases h), Keeps.refl _ _⟩
    · have d2 : decide (256 < n) = false := decide_eq_false b
      by_cases c : m < 1
      · clear h
        go_enter Try.func24, Try.ntmps24
        go_wp2_with fail
        go_ret2
        exact ⟨_, rfl, RdI.nil, (fun ad n c h => by cases h), Keeps.refl _ _⟩
      · have d3 : decide (m < 1) = false := decide_eq_false c
        have d4 : 11 < m := by omega
        clear h
        go_enter Try.func24, Try.ntmps24
        go_wp2_with fail
        go_ret2
        exact ⟨_, rfl, RdI.nil, (fun ad n c h => by cases h), Keeps.refl _ _⟩

set_option maxHeartbeats 2000000 in
theorem r_flat_none (n m : Int) (w : World) (h0 : 0 ≤ n) (h1 : n ≤ 1) (h2 : 1 ≤ m) (h3 : m ≤ 11) : Calls Try.prog 24 #[.int .i64 n, .int .i64 m] w (RefList w [] 22) := by
  have d1 : decide (n < 0) = false := decide_eq_false (by omega)
  have d2 : decide (256 < n) = false := decide_eq_false (by omega)
  have d3 : decide (m < 1) = false := decide_eq_false (by omega)
  have d4 : decide (11 < m) = false := decide_eq_false (by omega)
  have d5 : n < 2 := by omega
  go_enter Try.func24, Try.ntmps24
  go_wp2_with fail
  go_ret2
  exact ⟨_, rfl, RdI.nil, (fun ad n c h => by cases h), Keeps.refl _ _⟩

set_option maxHeartbeats 2000000 in
theorem r_flat_many (N m : Nat) (w : World) (h1 : 1 < N) (h0 : N ≤ 256) (h2 : 1 ≤ m) (h3 : m ≤ 11) (hb : ¬ N ≤ 2 ^ m) : Calls Try.prog 24 #[.int .i64 (N : Int), .int .i64 (m : Int)] w (RefList w [] 18) := by
  have d1 : decide ((N : Int) < 0) = false := decide_eq_false (by omega)
  have d2 : decide (256 < (N : Int)) = false := decide_eq_false (by omega)
  have d3 : decide ((m : Int) < 1) = false := decide_eq_false (by omega)
  have d4 : decide (11 < (m : Int)) = false := decide_eq_false (by omega)
  have d5 : decide ((N : Int) < 2) = false := decide_eq_false (by omega)
  have hm0 : (0 : Int) ≤ (m : Int) := by omega
  have hm11 : (m : Int) ≤ 11 := by omega
  have HB : Hid (decide (wrap64 ((2 : Int) ^ m) < (N : Int)) = true) := by
    show _ = _
    rw [(wrap_powK m (by omega)).1]
    exact decide_eq_true (by omega)
  clear hb
  have hd := HB.out
  go_enter Try.func24, Try.ntmps24
  go_wp2_with fail
  go_ret2
  exact ⟨_, rfl, RdI.nil, (fun ad n c h => by cases h), Keeps.refl _ _⟩

theorem flat_get {K N M i : Nat} (hM : M ≤ N) (hi : i < N) : (List.replicate M (K : Int) ++ List.replicate (N - M) ((K : Int) + 1))[i]? = some (if i < M then (K : Int) else (K : Int) + 1) := by
  by_cases h : i < M
  · rw [if_pos h, List.getElem?_append_left (by simpa using h), List.getElem?_replicate, if_pos h]
  · rw [if_neg h, List.getElem?_append_right (by simp; omega), List.length_replicate, List.getElem?_replicate, if_pos (by omega)]
theorem dbl_log {K N k : Nat} (hk : k ≤ K) (hK : K ≤ 8) (h1 : 2 ^ K ≤ N) (h2 : N < 2 * 2 ^ K) : decide (wrap64 (2 * 2 ^ k) ≤ (N : Int)) = decide (k < K) := by
  have h4 : ((2 : Int) ^ k) = ((2 ^ k : Nat) : Int) := by simp
  have h5 : 2 ^ k ≤ 256 := Nat.pow_le_pow_right (by decide : 0 < 2) (by omega : k ≤ 8)
  have hw : wrap64 (2 * ((2 ^ k : Nat) : Int)) = 2 * ((2 ^ k : Nat) : Int) := by
    clear h1 h2 h4
    generalize 2 ^ k = P at *
    exact IntWalk.wrap64_in _ ⟨by omega, by omega⟩
  rw [h4, hw, Bool.eq_iff_iff]
  simp only [decide_eq_true_eq]
  constructor
  · intro h
    by_cases he : k = K
    · subst he; omega
    · omega
  · intro h
    have : 2 ^ (k + 1) ≤ 2 ^ K := Nat.pow_le_pow_right (by decide) h
    rw [Nat.pow_succ] at this
    omega

set_option maxRecDepth 100000 in
set_option maxHeartbeats 4000000 in
theorem r_flat_yes (N m : Nat) (w : World) (h1 : 1 < N) (h0 : N ≤ 256) (h2 : 1 ≤ m) (h3 : m ≤ 11) (hb : N ≤ 2 ^ m) : Calls Try.prog 24 #[.int .i64 (N : Int), .int .i64 (m : Int)] w (RefList w (flatL N) 0) := by
  have d1 : decide ((N : Int) < 0) = false := decide_eq_false (by omega)
  have d2 : decide (256 < (N : Int)) = false := decide_eq_false (by omega)
  have d3 : decide ((m : Int) < 1) = false := decide_eq_false (by omega)
  have d4 : decide (11 < (m : Int)) = false := decide_eq_false (by omega)
  have d5 : decide ((N : Int) < 2) = false := decide_eq_false (by omega)
  have hm0 : (0 : Int) ≤ (m : Int) := by omega
  have hm11 : (m : Int) ≤ 11 := by omega
  have HB : Hid (decide (wrap64 ((2 : Int) ^ m) < (N : Int)) = false) := by
    show _ = _
    rw [(wrap_powK m (by omega)).1]
    exact decide_eq_false (by omega)
  have hk8 : N.log2 ≤ 8 := by have := (Nat.log2_lt (by omega : N ≠ 0) (k := 9)).2 (by omega); omega
  have HP : Hid (2 ^ N.log2 ≤ N ∧ N < 2 * 2 ^ N.log2) := ⟨Nat.log2_self_le (by omega), by have := Nat.lt_log2_self (n := N); rw [Nat.pow_succ] at this; omega⟩
  obtain ⟨FL, hFL⟩ : ∃ FL, FL = flatL N := ⟨_, rfl⟩
  have HFL := Lib.hid hFL
  rw [← hFL]
  unfold flatL at HFL
  clear hb hFL
  generalize N.log2 = K at *
  have DL := Lib.hid (fun k (hk : k ≤ K) => dbl_log hk hk8 HP.out.1 HP.out.2)
  obtain ⟨M, hM⟩ : ∃ M, M = 2 * 2 ^ K - N := ⟨_, rfl⟩
  have hMN : M ≤ N := by have := HP.out; omega
  have hsl : Hid (wrap64 (wrap64 (2 * 2 ^ K) - (N : Int)) = (M : Int)) := by
    have h4 : ((2 : Int) ^ K) = ((2 ^ K : Nat) : Int) := by simp
    have h5 := HP.out
    show _ = _
    rw [h4]
    clear h4
    generalize 2 ^ K = P at *
    rw [IntWalk.wrap64_in (2 * (P : Int)) ⟨by omega, by omega⟩, IntWalk.wrap64_in _ ⟨by omega, by omega⟩]
    omega
  have HFL2 : Hid (FL = List.replicate M (K : Int) ++ List.replicate (N - M) ((K : Int) + 1)) := by show _ = _; rw [HFL.out, hM]
  have hFLl : Hid (FL.length = N) := by show _ = _; rw [HFL2.out]; simp; omega
  have HGET : Hid (∀ i, i < N → FL[i]? = some (if i < M then (K : Int) else (K : Int) + 1)) := by intro i hi; rw [HFL2.out]; exact flat_get hMN hi
  obtain ⟨i0, hi, hz0, hz1, hz2⟩ := info_parts Try.infoInt
  clear hM HFL HP HFL2
  have hd := HB.out
  have hKb : (K : Int) ≤ 8 := by omega
  go_enter Try.func24, Try.ntmps24
  go_wp2_with fail
  clear hd d1 d2 d3 d4 d5
  go_loop [6] (fun s6 => ∃ k : Nat, k ≤ K ∧ s6 = .int .i64 k) (fun s6 => K - (intOf s6).toNat)
  case atStart => exact ⟨0, Nat.zero_le _, rfl⟩
  case round =>
    obtain ⟨k, hk, rfl⟩ := hrel
    have hkb : (k : Int) ≤ 8 := by omega
    have hk0 : (0 : Int) ≤ (k : Int) := Int.natCast_nonneg _
    by_cases hlt : k < K
    · have hd := DL.out k hk
      rw [decide_eq_true hlt] at hd
      go_wp2_with fail
      go_round
      case rel => exact ⟨k + 1, by omega, by go_num⟩
      case measure => simp [intOf]; omega
    · obtain rfl : k = K := by omega
      have hd := DL.out k hk
      rw [decide_eq_false hlt] at hd
      go_wp2_with fail
      clear hd DL
      go_loopw [7, 8] (fun s7 s8 wr => ∃ i : Nat, i ≤ N ∧ s8 = .int .i64 i ∧ wr.ownsRow w.heap.size 3 1 s7 (FL.take i).length ((FL.take i).map (Value.int .i64)) ∧ Keeps w wr []) (fun _ s8 _ => N - (intOf s8).toNat)
      case atStart => exact ⟨0, Nat.zero_le _, rfl, World.ownsRow_nil _ _ _ _, Keeps.refl _ _⟩
      case round =>
        obtain ⟨i, hi2, rfl, hown, kk⟩ := hrel
        have hli : (FL.take i).length = i := by have := hFLl.out; simp; omega
        by_cases hlt2 : i < N
        · have hx := HGET.out i hlt2
          have hst2 := Lib.hid (take_next hx)
          have HLI := Lib.hid hli
          have hiN : (i : Int) < (N : Int) := by omega
          clear hx hli
          by_cases hiM : i < M
          · have hd : decide ((i : Int) < wrap64 (wrap64 (2 * 2 ^ k) - (N : Int))) = true := by rw [hsl.out]; exact decide_eq_true (by omega)
            rw [if_pos hiM] at hst2
            generalize FL.take i = U at *
            have hul : U.length ≤ 256 := by have := HLI.out; omega
            go_wp2_with (first | (at_builtin; refine (wpList_append_own _ rfl _ _ 22 rfl w.heap.size 3 i0 (.int .i64 0) 1 8 Try.underlying22 hi hz0 hz1 hz2 rfl (by decide) u7 U.length _ rfl (hown.alloc _) ⟨wr.heap.size, 0, none⟩ 1 1 [.int .i64 (k : Int)] rfl rfl (cell_one_new _ _ _) (by simp [Value.oneCell']) (by unfold maxLen; omega) (by omega) (by have := kk.size; simp; omega) ?_); intro v5 w5 hown5 hg5 _))
            go_roundw
            case rel =>
              refine ⟨i + 1, by omega, by go_num, by rw [hst2.out]; simpa using hown5, ?_⟩
              refine Keeps.trans (kk.alloc _) (Keeps.of_grown (S := u7.ownBlock.toList) hg5 (fun j hj => by simpa using hj)) (fun j hj hlt2 => ?_)
              have hj' : u7.ownBlock = some j := by simpa using hj
              have := (hown.lt j hj').1
              omega
            case measure => simp [intOf]; omega
          · have hd : decide ((i : Int) < wrap64 (wrap64 (2 * 2 ^ k) - (N : Int))) = false := by rw [hsl.out]; exact decide_eq_false (by omega)
            rw [if_neg hiM] at hst2
            generalize FL.take i = U at *
            have hul : U.length ≤ 256 := by have := HLI.out; omega
            go_wp2_with (first | (at_builtin; refine (wpList_append_own _ rfl _ _ 22 rfl w.heap.size 3 i0 (.int .i64 0) 1 8 Try.underlying22 hi hz0 hz1 hz2 rfl (by decide) u7 U.length _ rfl (hown.alloc _) ⟨wr.heap.size, 0, none⟩ 1 1 [.int .i64 ((k : Int) + 1)] rfl rfl (cell_one_new _ _ _) (by simp [Value.oneCell']) (by unfold maxLen; omega) (by omega) (by have := kk.size; simp; omega) ?_); intro v5 w5 hown5 hg5 _))
            go_roundw
            case rel =>
              refine ⟨i + 1, by omega, by go_num, by rw [hst2.out]; simpa using hown5, ?_⟩
              refine Keeps.trans (kk.alloc _) (Keeps.of_grown (S := u7.ownBlock.toList) hg5 (fun j hj => by simpa using hj)) (fun j hj hlt2 => ?_)
              have hj' : u7.ownBlock = some j := by simpa using hj
              have := (hown.lt j hj').1
              omega
            case measure => simp [intOf]; omega
        · obtain rfl : i = N := by omega
          go_wp2_with fail
          go_ret2
          rw [List.take_of_length_le (by have := hFLl.out; omega)] at hown
          refine ⟨_, rfl, own_reads hown, fun ad n c he => ?_, kk⟩
          have he' : u7 = _ := he
          exact (hown.lt ad.block (by rw [he']; rfl)).1

theorem r_flat (n m : Int) (w : World) : Calls Try.prog 24 #[.int .i64 n, .int .i64 m] w (RefList w (flatOut n m) (flatErr n m)) := by
  have key : ∀ E : Int, E ≠ 0 → flatErr n m = E → Calls Try.prog 24 #[.int .i64 n, .int .i64 m] w (RefList w [] E) → Calls Try.prog 24 #[.int .i64 n, .int .i64 m] w (RefList w (flatOut n m) (flatErr n m)) := by
    intro E h1 h2 h
    have e : flatOut n m = [] := by rw [flatOut, h2, if_neg h1]
    rw [e, h2]
    exact h
  by_cases a : 0 ≤ n
  · by_cases b : n ≤ 256
    · by_cases c : 1 ≤ m
      · by_cases d : m ≤ 11
        · by_cases e : 1 < n
          · obtain ⟨N, rfl⟩ := Int.eq_ofNat_of_zero_le a
            obtain ⟨M, rfl⟩ := Int.eq_ofNat_of_zero_le (show 0 ≤ m by omega)
            by_cases f : N ≤ 2 ^ M
            · have e1 : flatErr (N : Int) (M : Int) = 0 := by simp [flatErr, b, c, d, e, f]
              rw [flatOut, e1, if_pos rfl, Int.toNat_natCast]
              exact r_flat_yes N M w (by omega) (by omega) (by omega) (by omega) f
            · exact key 18 (by decide) (by simp [flatErr, b, c, d, e, f]) (r_flat_many N M w (by omega) (by omega) (by omega) (by omega) f)
          · exact key 22 (by decide) (by simp [flatErr, a, b, c, d, e]) (r_flat_none n m w a (by omega) c d)
        · exact key 2 (by decide) (by simp [flatErr, a, b, c, d]) (r_flat_arg n m w (by omega))
      · exact key 2 (by decide) (by simp [flatErr, a, b, c]) (r_flat_arg n m w (by omega))
    · exact key 2 (by decide) (by simp [flatErr, a, b]) (r_flat_arg n m w (by omega))
  · exact key 2 (by decide) (by simp [flatErr, a]) (r_flat_arg n m w (by omega))
end

end Go.Proofs.Ythjbngnihcmedaa
