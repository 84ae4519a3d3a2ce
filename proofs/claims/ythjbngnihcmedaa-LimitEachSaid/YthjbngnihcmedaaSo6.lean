/-
  Merging two sorted neighbours in place: one number ahead (slices' symMerge, its first branch).
-/
import Derived.Test.YthjbngnihcmedaaSo4
import Derived.Test.YthjbngnihcmedaaSo5
namespace Go.Proofs.Ythjbngnihcmedaa
set_option linter.unusedVariables false
set_option linter.unusedSimpArgs false
open Go.RowKit

/-- How a merge ends: between P and S stands Z, sorted. -/
def MergeEnd (w : World) (g n c : Nat) (P M S : List Int) (key : Int → Int) (e : Ending) (w' : World) : Prop :=
  e = .returned (.tuple #[]) ∧ (∃ Z, RowI w' g n c (P ++ Z ++ S) ∧ EqF key M Z ∧ Srt key Z) ∧ Keeps w w' [g]

set_option maxRecDepth 100000 in
set_option maxHeartbeats 4000000 in
theorem symLeft_any (g n c a m b : Nat) (P Y S : List Int) (x : Int) (gf : Nat) (lb : Array Value) (key : Int → Int) (ok : Int → Prop) (w : World) (eg : ∀ args w, (callFunc gf args).run Try.prog w = .ok (.enter gf args) w)
    (h : RowI w g n c (P ++ [x] ++ Y ++ S)) (hc : CmpOk Try.prog gf lb key g ok w) (hok : ∀ z ∈ P ++ [x] ++ Y ++ S, ok z) (hY : Srt key Y) (hn : n ≤ 1000000) (ha : a = P.length) (hm : m = a + 1) (hb : b = m + Y.length) (hY0 : 0 < Y.length) :
    Calls Try.prog 70 #[.slice (some ⟨g, 0, none⟩) n c, .int .i64 a, .int .i64 m, .int .i64 b, .func (.func gf) #[] lb] w (MergeEnd w g n c P ([x] ++ Y) S key) := by
  have hbn : b ≤ n := by have := h.1; simp at this; omega
  have hcap := h.cap
  have hab : a < b := by omega
  have hmb : m < b := by omega
  have hmn : m ≤ n := by omega
  have han : a ≤ n := by omega
  have hd1 : ((m : Int) - (a : Int)) = 1 := by omega
  have H := Lib.hid h
  have HC := Lib.hid hc
  have HOK := Lib.hid hok
  have HY := Lib.hid hY
  have HMON := Lib.hid (qLess_mono (m := m) (x := x) hY)
  have HB := Lib.hid hb
  have HM := Lib.hid hm
  have HA := Lib.hid ha
  have hxa0 : Hid (∀ w, RowI w g n c (P ++ [x] ++ Y ++ S) → w.cell? ⟨g, a, none⟩ = some (.int .i64 x)) := fun w h => h.at (by
    rw [ha]
    have : P ++ [x] ++ Y ++ S = P ++ x :: (Y ++ S) := by simp
    rw [this]; exact get_mid)
  have hcy0 : Hid (∀ w, RowI w g n c (P ++ [x] ++ Y ++ S) → ∀ t u, Y[t]? = some u → w.cell? ⟨g, m + t, none⟩ = some (.int .i64 u)) := fun w h t u hu => h.at (by
    have hlt := (List.getElem?_eq_some_iff.1 hu).1
    have e1 : P ++ [x] ++ Y ++ S = (P ++ [x]) ++ (Y ++ S) := by simp
    have e2 : m + t = (P ++ [x]).length + t := by simp; omega
    rw [e1, e2, List.getElem?_append_right (by omega), List.getElem?_append_left (by omega)]
    simpa using hu)
  have hox := Lib.hid (hok x (by simp))
  clear h hc hok hY hb hm ha hY0
  go_enter Try.func70, Try.ntmps70
  go_wp2_with fail
  go_loopw [10, 11] (fun s10 s11 wr => ∃ (i j : Nat), m ≤ i ∧ i ≤ j ∧ j ≤ b ∧ s10 = .int .i64 i ∧ s11 = .int .i64 j ∧ Hid (SeaI (qLess key Y m x) m i j (m + Y.length)) ∧ Hid (RowI wr g n c (P ++ [x] ++ Y ++ S)) ∧ Keeps w wr [g]) (fun s10 s11 _ => (intOf s11).toNat - (intOf s10).toNat)
  case atStart => exact ⟨m, b, Nat.le_refl _, by omega, Nat.le_refl _, rfl, rfl, by rw [HB.out]; exact sea_start _ _ _, H, Keeps.refl _ _⟩
  case round =>
    obtain ⟨i, j, hmi, hij, hjb, rfl, rfl, hs, hrow, kr⟩ := hrel
    obtain ⟨wo, rfl⟩ : ∃ wo : World, wo = wr := ⟨_, rfl⟩
    clear H
    have hxa := hxa0.out wo hrow.out
    have hcy := Lib.hid (hcy0.out wo hrow.out)
    by_cases hlt : i < j
    · have hlt' : (i : Int) < (j : Int) := by omega
      obtain ⟨t, ht, ht2, zh⟩ : ∃ t : Nat, i ≤ m + t ∧ m + t < j ∧ ((i : Int) + (j : Int)) / 2 = ((m + t : Nat) : Int) := ⟨(i + j) / 2 - m, by omega, by omega, by omega⟩
      obtain ⟨u, hu⟩ : ∃ u, Y[t]? = some u := ⟨_, List.getElem?_eq_getElem (by have := HB.out; omega)⟩
      have hcu := hcy.out t u hu
      have hou := Lib.hid (HOK.out u (by have := List.mem_of_getElem? hu; simp [this]))
      have hup : Hid (key u < key x → SeaI (qLess key Y m x) m (m + t + 1) j (m + Y.length)) := fun hc => sea_up HMON.out hs.out (by have := HB.out; omega) ⟨u, by rw [Nat.add_sub_cancel_left]; exact hu, hc⟩
      have hdn : Hid (key x ≤ key u → SeaI (qLess key Y m x) m i (m + t) (m + Y.length)) := fun hc => sea_dn HMON.out hs.out (by omega) (by
        rintro ⟨v, hv, hlt⟩
        rw [Nat.add_sub_cancel_left, hu] at hv
        cases hv; omega)
      have htn : m + t < n := by omega
      have han2 : a < n := by omega
      have hm0 : m ≤ m + t := by omega
      generalize m + t = mt at *
      clear hu
      go_wp2_with fail
      go_quiet ((exact Calls.quiet_of (HC.out _ (kr.drewN _) _ _ hou.out hox.out)))
      rcases Int.lt_or_le (key u) (key x) with hxy | hxy
      · have hneg : decide (cmpR key u x < 0) = true := decide_eq_true (cmpR_neg.2 hxy)
        have hneg2 : cmpR key u x < 0 := cmpR_neg.2 hxy
        have hfin := Lib.hid (hup.out hxy)
        clear hxy
        go_wp2_with fail
        go_roundw
        case rel => exact ⟨mt + 1, j, by omega, by omega, hjb, by go_num, rfl, hfin, hrow, kr.drewN nq⟩
        case measure => simp [intOf]; omega
      · have hneg : decide (cmpR key u x < 0) = false := decide_eq_false (fun h => by have := cmpR_neg.1 h; omega)
        have hneg2 : ¬ cmpR key u x < 0 := fun h => by have := cmpR_neg.1 h; omega
        have hfin := Lib.hid (hdn.out hxy)
        clear hxy
        go_wp2_with fail
        go_roundw
        case rel => exact ⟨i, mt, hmi, by omega, by omega, rfl, rfl, hfin, hrow, kr.drewN nq⟩
        case measure => simp [intOf]; omega
    · obtain rfl : i = j := by omega
      obtain ⟨Y1, Y2, hY12, hl1, hc1, hc2⟩ := cutLess hs.out hmi (by have := HB.out; omega)
      have D := Lib.hid (doneLess (by rw [← hY12]; exact HY.out) hc1 hc2)
      have HY12 := Lib.hid hY12
      have H0 : Hid (RowI wo g n c (mvR P x Y1 (Y2 ++ S) 0)) := by
        have := hrow.out
        rw [hY12] at this
        show RowI wo g n c (mvR P x Y1 (Y2 ++ S) 0)
        simpa [mvR] using this
      have HL1 : Hid (Y1.length + m = i) := by show _ = _; omega
      have zi : ((i : Int) - 1) = ((a + Y1.length : Nat) : Int) := by have := HM.out; omega
      have si : IntKind.i64.wrap ((i : Int) - 1) = ((a + Y1.length : Nat) : Int) := by rw [zi]; exact IntWalk.i64_in _ (by have := HM.out; omega)
      have hiY : a + Y1.length < n := by have := HM.out; omega
      clear hs hY12 hl1 hc1 hc2 hcy hxa
      go_wp2_with fail
      go_loopw [13] (fun s13 wr => ∃ (t : Nat), t ≤ Y1.length ∧ s13 = .int .i64 ((a + t : Nat) : Int) ∧ Hid (RowI wr g n c (mvR P x Y1 (Y2 ++ S) t)) ∧ Keeps w wr [g]) (fun s13 _ => a + Y1.length - (intOf s13).toNat)
      case atStart => exact ⟨0, Nat.zero_le _, rfl, H0.out, kr⟩
      case round =>
        clear H0 kr
        obtain ⟨t, ht, rfl, hr, kr⟩ := hrel
        by_cases htl : t < Y1.length
        · obtain ⟨u, e1, e2, e3⟩ := mvR_step (P := P) (x := x) (T := Y2 ++ S) htl
          rw [← HA.out] at e1 e2 e3
          have c1 := hr.out.at e1
          have c2 := hr.out.at e2
          have f1 := hr.out.frozen (a + t)
          have f2 := hr.out.frozen (a + t + 1)
          have r2 : Hid (RowI ((wr.setCell ⟨g, a + t, none⟩ (.int .i64 u)).setCell ⟨g, a + t + 1, none⟩ (.int .i64 x)) g n c (mvR P x Y1 (Y2 ++ S) (t + 1))) := by
            have := (hr.out.set (a + t) u).set (a + t + 1) x
            rw [e3] at this
            exact this
          have hlt2 : ((a + t : Nat) : Int) < ((a + Y1.length : Nat) : Int) := by omega
          have ha1 : a + t < n := by omega
          have ha2 : a + t + 1 < n := by omega
          have s1 : IntKind.i64.wrap (((a + t : Nat) : Int) + 1) = ((a + t : Nat) : Int) + 1 := IntWalk.i64_in _ (by omega)
          have s2 : (((a + t : Nat) : Int) + 1).toNat = a + t + 1 := by omega
          have s3 : 0 ≤ ((a + t : Nat) : Int) + 1 := by omega
          have s4 : ((a + t : Nat) : Int) + 1 < (n : Int) := by omega
          have e0 : a + (t + 1) = a + t + 1 := by omega
          have hT : t + 1 ≤ Y1.length := htl
          have kr2 := Lib.hid (((kr.setCell (a := ⟨g, a + t, none⟩) (.inr (by simp)) (.int .i64 u)).setCell (a := ⟨g, a + t + 1, none⟩) (.inr (by simp)) (.int .i64 x)).drew)
          have E0 := Lib.hid e0
          have hat : a + t < a + Y1.length := by omega
          generalize a + Y1.length = ay at *
          have ⟨k, hk⟩ : ∃ k, k = a + t := ⟨_, rfl⟩
          rw [← hk] at c1 c2 f1 f2 r2 hlt2 ha1 ha2 s1 s2 s3 s4 kr2 hat ⊢
          clear e1 e2 e3 e0 hr
          have HK := Lib.hid hk
          clear hk
          have hne : k ≠ k + 1 := by omega
          go_wp2_with fail
          go_region
          go_wp2_with fail
          go_roundw
          case rel => exact ⟨t + 1, hT, by rw [E0.out, ← HK.out]; go_num, r2.out, kr2.out⟩
          case measure => simp [intOf]; omega
        · obtain rfl : t = Y1.length := by omega
          go_wp2_with fail
          go_end0
          refine ⟨rfl, ⟨Y1 ++ x :: Y2, ?_, by rw [HY12.out]; exact D.out.1, D.out.2⟩, kr⟩
          have := hr.out
          unfold mvR at this
          rw [List.take_of_length_le (Nat.le_refl _), List.drop_eq_nil_of_le (Nat.le_refl _)] at this
          simpa using this

end Go.Proofs.Ythjbngnihcmedaa
