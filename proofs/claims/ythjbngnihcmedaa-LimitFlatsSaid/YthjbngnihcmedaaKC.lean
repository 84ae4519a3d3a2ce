/-
  Walks over the references of package limit: Cost.
-/
import Derived.Test.YthjbngnihcmedaaKB
namespace Go.Proofs.Ythjbngnihcmedaa
set_option linter.unusedVariables false
set_option linter.unusedSimpArgs false
set_option linter.unusedSectionVars false
open Go.RowKit

/-- The cost of the first k symbols. -/
def costT (x y : List Int) (k : Nat) : Int := costS x y (usedL (x.take k))
theorem costT_all {x y : List Int} {k : Nat} (h : x.length ≤ k) : costT x y k = costOut x y := by rw [costT, costOut, List.take_of_length_le h]
theorem costT_step {x y : List Int} {k : Nat} {z : Int} (h : x[k]? = some z) (h0 : 0 ≤ z) : costT x y (k + 1) = costT x y k + z * atL y k := by
  have hk : (x.take k).length = k := by have := (List.getElem?_eq_some_iff.1 h).1; simp; omega
  unfold costT
  rw [take_next h, usedL_snoc, hk]
  by_cases hz : 0 < z
  · rw [if_pos hz, costS_snoc, keyC_at h, Int.toNat_natCast]
  · have : z = 0 := by omega
    subst this
    rw [if_neg hz, List.append_nil, Int.zero_mul, Int.add_zero]
/-- Every used symbol among the first k has a code word. -/
def longT (x y : List Int) (k : Nat) : Bool := (usedL (x.take k)).all fun s => decide (0 < atL y s.toNat)
theorem longT_step {x y : List Int} {k : Nat} {z : Int} (h : x[k]? = some z) : longT x y (k + 1) = (longT x y k && !(decide (0 < z) && decide (¬ 0 < atL y k))) := by
  have hk : (x.take k).length = k := by have := (List.getElem?_eq_some_iff.1 h).1; simp; omega
  unfold longT
  rw [take_next h, usedL_snoc, hk, List.all_append]
  by_cases hz : 0 < z
  · rw [if_pos hz]
    congr 1
    rw [Bool.eq_iff_iff]; simp [hz]
  · rw [if_neg hz]; simp [hz]
theorem longT_all {x y : List Int} {k : Nat} (h : x.length ≤ k) : longT x y k = longL x y := by rw [longT, longL, List.take_of_length_le h]
theorem usedF_pre {i : Nat} {a b : List Int} : usedF i (a ++ b) = usedF i a ++ usedF (i + a.length) b := by
  induction a generalizing i with
  | nil => simp [usedF]
  | cons c a ih =>
    simp only [List.cons_append, usedF, ih, List.length_cons]
    rw [show i + 1 + a.length = i + (a.length + 1) by omega]
    split <;> simp
theorem longT_false {x y : List Int} {k : Nat} (h : longT x y k = false) : longL x y = false := by
  have e : usedL x = usedL (x.take k) ++ usedF (x.take k).length (x.drop k) := by
    have := usedF_pre (i := 0) (a := x.take k) (b := x.drop k)
    rw [List.take_append_drop, Nat.zero_add] at this
    exact this
  unfold longL
  unfold longT at h
  rw [e, List.all_append, h]; rfl
theorem costT_bd {x y : List Int} (hx : rightL x = true) (hy : withinL 60 y = true) : ∀ k, 0 ≤ costT x y k ∧ costT x y k ≤ 128849018880 * (k : Int)
  | 0 => by simp [costT, usedL, usedF, costS]
  | k + 1 => by
    have ih := costT_bd hx hy k
    cases h : x[k]? with
    | none =>
      have hl : x.length ≤ k := List.getElem?_eq_none_iff.1 h
      rw [costT_all (by omega), ← costT_all hl]
      omega
    | some z =>
      have hz := right_get hx h
      rw [costT_step h hz.1]
      obtain ⟨a1, a2⟩ := atL_bd hy k
      have m1 : 0 ≤ z * atL y k := Int.mul_nonneg hz.1 a1
      have m2 : z * atL y k ≤ 2147483648 * 60 := Int.mul_le_mul hz.2 a2 a1 (by decide)
      omega

def RefCost (w : World) (c E : Int) (e : Ending) (w' : World) : Prop := e = .returned (.tuple #[.int .i64 c, .int .i64 E]) ∧ ∃ m, w' = w.drewN m

set_option maxHeartbeats 2000000 in
theorem r_cost_fine (vx vy : Value) (x y : List Int) (w : World) (hx : RdI .i64 w vx x) (hy : RdI .i64 w vy y) (hr : rightL x = true) (h60 : withinL 60 y = true) :
    Calls Try.prog 18 #[vx, vy] w (RefCost w (if longL x y then costOut x y else 0) (if longL x y then 0 else 18)) := by
  have hxl := (rightL_iff.1 hr).1
  have hyl := (withinL_iff.1 h60).1
  have R1 := Lib.hid (r_right vx x w hx (by omega))
  have R2 := Lib.hid (r_right13 vy y w hy (by omega))
  rw [hr] at R1
  rw [h60] at R2
  have RAT := Lib.hid (fun (k : Nat) (wr : World) (kk : Keeps w wr []) => r_at13 vy y k wr (hy.keeps kk) (by omega))
  have HB := Lib.hid (costT_bd (x := x) (y := y) hr h60)
  have HAB := Lib.hid (fun k => atL_bd h60 k)
  have HR := Lib.hid hr
  have HV := Lib.hid hx
  obtain ⟨A0, n, cp0, rfl, hnl, -⟩ := hx.form
  obtain ⟨A1, n1, cp1, rfl, hnl1, -⟩ := hy.form
  have HN := Lib.hid hnl
  have hn' : n ≤ 256 := by omega
  obtain ⟨C, hC⟩ : ∃ C, C = if longL x y then costOut x y else 0 := ⟨_, rfl⟩
  obtain ⟨E, hE⟩ : ∃ E : Int, E = if longL x y then 0 else 18 := ⟨_, rfl⟩
  rw [← hC, ← hE]
  have HC := Lib.hid hC
  have HE := Lib.hid hE
  clear hx hy hr h60 hxl hyl hnl hnl1 hC hE
  go_enter Try.func18, Try.ntmps18
  go_wp2_with (first | (go_at_call 11; refine R1.out.mono ?_; rintro e w' ⟨rfl, hw⟩; subst w') | (go_at_call 41; refine R2.out.mono ?_; rintro e w' ⟨rfl, hw⟩; subst w'))
  go_loopw [6, 7] (fun s i wr => ∃ k : Nat, k ≤ n ∧ i = .int .i64 k ∧ s = .int .i64 (costT x y k) ∧ Hid (longT x y k = true) ∧ Hid (∃ m, wr = w.drewN m)) (fun _ i _ => n - (intOf i).toNat)
  case atStart => exact ⟨0, Nat.zero_le _, rfl, rfl, rfl, ⟨0, rfl⟩⟩
  case round =>
    obtain ⟨k, hk, rfl, rfl, hlg, hwd⟩ := hrel
    have hkw : Keeps w wr [] := by obtain ⟨m, rfl⟩ := hwd.out; exact (Keeps.refl w []).drewN m
    have HNX : Hid (∀ q, ∃ m, wr.drewN q = w.drewN m) := by obtain ⟨m, rfl⟩ := hwd.out; exact fun q => ⟨m + q, by simp⟩
    clear R1 R2
    by_cases hlt : k < n
    · obtain ⟨z, hz⟩ : ∃ z, x[k]? = some z := ⟨_, List.getElem?_eq_getElem (by have := HN.out; omega)⟩
      obtain ⟨b, o, rfl, hb, hc⟩ := (HV.out.keeps hkw).at hz
      have hzb := right_get HR.out hz
      have hcap := HV.out.cap
      have hkn : (k : Int) < (n : Int) := by omega
      have hk0 : (0 : Int) ≤ (k : Int) := Int.natCast_nonneg _
      have HST := Lib.hid (costT_step (y := y) hz hzb.1)
      have HLS := Lib.hid (longT_step (y := y) hz)
      have hb1 := HB.out k
      have hab := HAB.out k
      have G1 := Lib.hid (fun nd => RAT.out k (wr.drewN nd) (hkw.drewN nd))
      have G0 := Lib.hid (RAT.out k wr hkw)
      have HAT : Hid (atL y k = atL y k) := rfl
      obtain ⟨T, hT⟩ : ∃ T, T = costT x y k := ⟨_, rfl⟩
      obtain ⟨a, ha⟩ : ∃ a, a = atL y k := ⟨_, rfl⟩
      have HA := Lib.hid ha
      have HT := Lib.hid hT
      rw [← hT] at hb1 ⊢
      rw [← ha] at hab G1 G0
      clear hz hT ha HAT RAT hkw
      have hm1 : 0 ≤ z * a := Int.mul_nonneg hzb.1 hab.1
      have hm2 : z * a ≤ 2147483648 * 60 := Int.mul_le_mul hzb.2 hab.2 hab.1 (by decide)
      have wm : IntKind.i64.wrap (z * a) = z * a := IntWalk.i64_in _ (by omega)
      have wa : IntKind.i64.wrap (T + z * a) = T + z * a := IntWalk.i64_in _ (by omega)
      have WM := Lib.hid wm
      have WA := Lib.hid wa
      clear wm wa hm1 hm2
      by_cases h0 : 0 < z
      · by_cases ha0 : a = 0
        · subst ha0
          have hl2 : longL x y = false := longT_false (k := k + 1) (by rw [HLS.out, ← HA.out]; simp [h0])
          have hE2 : E = 18 := by rw [HE.out, hl2]; rfl
          have hC2 : C = 0 := by rw [HC.out, hl2]; rfl
          subst hE2 hC2
          clear HE HC hl2
          go_wp2_with (first | (go_at_call 42; refine G0.out.mono ?_; rintro e w' ⟨rfl, hw⟩; subst w'))
          go_ret2
          exact ⟨rfl, hwd.out⟩
        · have hd2 : (a == 0) = false := by simpa using ha0
          have NL : Hid (longT x y (k + 1) = true) := by show _ = _; rw [HLS.out, hlg.out, ← HA.out]; simp; omega
          have w1 := WM.out
          have w2 := WA.out
          go_wp2_with (first | (go_at_call 42; refine G0.out.mono ?_; rintro e w' ⟨rfl, hw⟩; subst w'))
          go_quiet ((go_at_call 42; exact Calls.quiet_of_same (G1.out _)))
          go_wp2_with fail
          go_roundw
          case rel => exact ⟨k + 1, by omega, by go_num, by rw [HST.out, ← HA.out, ← HT.out], NL, HNX.out nq⟩
          case measure => simp [intOf]; omega
      · have hd : decide (0 < z) = false := by simpa using h0
        have NL : Hid (longT x y (k + 1) = true) := by show _ = _; rw [HLS.out, hlg.out]; simp [h0]
        have w1 := WM.out
        have w2 := WA.out
        go_wp2_with fail
        go_quiet ((go_at_call 42; exact Calls.quiet_of_same (G1.out _)))
        go_wp2_with fail
        go_roundw
        case rel => exact ⟨k + 1, by omega, by go_num, by rw [HST.out, ← HA.out, ← HT.out], NL, HNX.out nq⟩
        case measure => simp [intOf]; omega
    · have : k = n := by omega
      subst this
      have hl2 : longL x y = true := by rw [← longT_all (k := k) (by have := HN.out; omega)]; exact hlg.out
      have hE2 : E = 0 := by rw [HE.out, hl2]; rfl
      have hC2 : C = costT x y k := by rw [HC.out, hl2, costT_all (by have := HN.out; omega)]; rfl
      subst hE2 hC2
      clear HE HC hl2
      go_wp2_with fail
      go_ret2
      exact ⟨rfl, hwd.out⟩

set_option maxHeartbeats 1000000 in
theorem r_cost_bad (vx vy : Value) (x y : List Int) (w : World) (hx : RdI .i64 w vx x) (hy : RdI .i64 w vy y) (hn : x.length ≤ 1000000) (hn1 : y.length ≤ 1000000) (hr : rightL x = false ∨ rightL x = true ∧ withinL 60 y = false) :
    Calls Try.prog 18 #[vx, vy] w (RefCost w 0 2) := by
  have R1 := Lib.hid (r_right vx x w hx hn)
  have R2 := Lib.hid (r_right13 vy y w hy hn1)
  obtain ⟨A0, n, cp0, rfl, hnl, -⟩ := hx.form
  obtain ⟨A1, n1, cp1, rfl, hnl1, -⟩ := hy.form
  clear hx hy hnl hnl1
  rcases hr with h1 | ⟨h1, h2⟩
  · rw [h1] at R1
    clear R2 h1
    go_enter Try.func18, Try.ntmps18
    go_wp2_with (first | (go_at_call 11; refine R1.out.mono ?_; rintro e w' ⟨rfl, hw⟩; subst w'))
    go_ret2
    exact ⟨rfl, 0, rfl⟩
  · rw [h1] at R1
    rw [h2] at R2
    clear h1 h2
    go_enter Try.func18, Try.ntmps18
    go_wp2_with (first | (go_at_call 11; refine R1.out.mono ?_; rintro e w' ⟨rfl, hw⟩; subst w') | (go_at_call 41; refine R2.out.mono ?_; rintro e w' ⟨rfl, hw⟩; subst w'))
    go_ret2
    exact ⟨rfl, 0, rfl⟩

theorem r_cost (vx vy : Value) (x y : List Int) (w : World) (hx : RdI .i64 w vx x) (hy : RdI .i64 w vy y) (hn : x.length ≤ 1000000) (hn1 : y.length ≤ 1000000) :
    Calls Try.prog 18 #[vx, vy] w (RefCost w (if costErr x y = 0 then costOut x y else 0) (costErr x y)) := by
  cases hr : rightL x with
  | false =>
    have e : costErr x y = 2 := by simp [costErr, hr]
    rw [e, if_neg (by decide)]
    exact r_cost_bad vx vy x y w hx hy hn hn1 (.inl hr)
  | true =>
    cases h60 : withinL 60 y with
    | false =>
      have e : costErr x y = 2 := by simp [costErr, h60]
      rw [e, if_neg (by decide)]
      exact r_cost_bad vx vy x y w hx hy hn hn1 (.inr ⟨hr, h60⟩)
    | true =>
      have G := r_cost_fine vx vy x y w hx hy hr h60
      have e : costErr x y = if longL x y then 0 else 18 := by simp [costErr, hr, h60]
      rw [e]
      cases hl : longL x y with
      | true => rw [hl] at G; simpa using G
      | false => rw [hl] at G; simpa using G

end Go.Proofs.Ythjbngnihcmedaa
