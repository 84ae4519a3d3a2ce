/-
  Merging two sorted neighbours in place: one number behind (slices' symMerge, its second branch).
-/
import Derived.Test.YthjbngnihcmedaaSo6
namespace Go.Proofs.Ythjbngnihcmedaa
set_option linter.unusedVariables false
set_option linter.unusedSimpArgs false
open Go.RowKit

set_option maxRecDepth 100000 in
set_option maxHeartbeats 4000000 in
theorem symRight_any (g n c a m b : Nat) (P X S : List Int) (y : Int) (gf : Nat) (lb : Array Value) (key : Int → Int) (ok : Int → Prop) (w : World) (eg : ∀ args w, (callFunc gf args).run Try.prog w = .ok (.enter gf args) w)
    (h : RowI w g n c (P ++ X ++ [y] ++ S)) (hc : CmpOk Try.prog gf lb key g ok w) (hok : ∀ z ∈ P ++ X ++ [y] ++ S, ok z) (hX : Srt key X) (hn : n ≤ 1000000) (ha : a = P.length) (hm : m = a + X.length) (hb : b = m + 1) (hX1 : 1 < X.length) :
    Calls Try.prog 70 #[.slice (some ⟨g, 0, none⟩) n c, .int .i64 a, .int .i64 m, .int .i64 b, .func (.func gf) #[] lb] w (MergeEnd w g n c P (X ++ [y]) S key) := by
  have hbn : b ≤ n := by have := h.1; simp at this; omega
  have hcap := h.cap
  have hab : a < b := by omega
  have ham : a < m := by omega
  have hmb : m < b := by omega
  have hmn : m < n := by omega
  have han : a ≤ n := by omega
  have hd0 : ((m : Int) - (a : Int) == 1) = false := by simp; omega
  have hd1 : ((b : Int) - (m : Int)) = 1 := by omega
  have H := Lib.hid h
  have HC := Lib.hid hc
  have HOK := Lib.hid hok
  have HX := Lib.hid hX
  have HMON := Lib.hid (qLeq_mono (a := a) (y := y) hX)
  have HM := Lib.hid hm
  have HA := Lib.hid ha
  have hxa0 : Hid (∀ w, RowI w g n c (P ++ X ++ [y] ++ S) → w.cell? ⟨g, m, none⟩ = some (.int .i64 y)) := fun w h => h.at (by
    have e1 : P ++ X ++ [y] ++ S = (P ++ X) ++ y :: S := by simp
    have e2 : m = (P ++ X).length := by simp; omega
    rw [e1, e2]; exact get_mid)
  have hcy0 : Hid (∀ w, RowI w g n c (P ++ X ++ [y] ++ S) → ∀ t u, X[t]? = some u → w.cell? ⟨g, a + t, none⟩ = some (.int .i64 u)) := fun w h t u hu => h.at (by
    have hlt := (List.getElem?_eq_some_iff.1 hu).1
    have e1 : P ++ X ++ [y] ++ S = P ++ (X ++ ([y] ++ S)) := by simp
    have e2 : a + t = P.length + t := by omega
    rw [e1, e2, List.getElem?_append_right (by omega), List.getElem?_append_left (by omega)]
    simpa using hu)
  have hoy := Lib.hid (hok y (by simp))
  clear h hc hok hX hb hm ha hX1
  go_enter Try.func70, Try.ntmps70
  go_wp2_with fail
  go_loopw [14, 15] (fun s14 s15 wr => ∃ (i j : Nat), a ≤ i ∧ i ≤ j ∧ j ≤ m ∧ s14 = .int .i64 i ∧ s15 = .int .i64 j ∧ Hid (SeaI (qLeq key X a y) a i j (a + X.length)) ∧ Hid (RowI wr g n c (P ++ X ++ [y] ++ S)) ∧ Keeps w wr [g]) (fun s14 s15 _ => (intOf s15).toNat - (intOf s14).toNat)
  case atStart => exact ⟨a, m, Nat.le_refl _, by omega, Nat.le_refl _, rfl, rfl, by rw [HM.out]; exact sea_start _ _ _, H, Keeps.refl _ _⟩
  case round =>
    obtain ⟨i, j, hai, hij, hjm, rfl, rfl, hs, hrow, kr⟩ := hrel
    obtain ⟨wo, rfl⟩ : ∃ wo : World, wo = wr := ⟨_, rfl⟩
    clear H
    have hxa := hxa0.out wo hrow.out
    have hcy := Lib.hid (hcy0.out wo hrow.out)
    by_cases hlt : i < j
    · have hlt' : (i : Int) < (j : Int) := by omega
      obtain ⟨t, ht, ht2, zh⟩ : ∃ t : Nat, i ≤ a + t ∧ a + t < j ∧ ((i : Int) + (j : Int)) / 2 = ((a + t : Nat) : Int) := ⟨(i + j) / 2 - a, by omega, by omega, by omega⟩
      obtain ⟨u, hu⟩ : ∃ u, X[t]? = some u := ⟨_, List.getElem?_eq_getElem (by have := HM.out; omega)⟩
      have hcu := hcy.out t u hu
      have hou := Lib.hid (HOK.out u (by have := List.mem_of_getElem? hu; simp [this]))
      have hup : Hid (key u ≤ key y → SeaI (qLeq key X a y) a (a + t + 1) j (a + X.length)) := fun hc => sea_up HMON.out hs.out (by have := HM.out; omega) ⟨u, by rw [Nat.add_sub_cancel_left]; exact hu, hc⟩
      have hdn : Hid (key y < key u → SeaI (qLeq key X a y) a i (a + t) (a + X.length)) := fun hc => sea_dn HMON.out hs.out (by omega) (by
        rintro ⟨v, hv, hlt⟩
        rw [Nat.add_sub_cancel_left, hu] at hv
        cases hv; omega)
      have htn : a + t < n := by omega
      have hm0 : a ≤ a + t := by omega
      generalize a + t = mt at *
      clear hu
      go_wp2_with fail
      go_quiet ((exact Calls.quiet_of (HC.out _ (kr.drewN _) _ _ hoy.out hou.out)))
      rcases Int.lt_or_le (key y) (key u) with hxy | hxy
      · have hneg : decide (cmpR key y u < 0) = true := decide_eq_true (cmpR_neg.2 hxy)
        have hneg2 : cmpR key y u < 0 := cmpR_neg.2 hxy
        have hneg3 : (!decide (cmpR key y u < 0)) = false := by simpa using hneg2
        have hfin := Lib.hid (hdn.out hxy)
        clear hxy
        rw [hneg3]
        go_wp2_with fail
        go_roundw
        case rel => exact ⟨i, mt, hai, by omega, by omega, rfl, rfl, hfin, hrow, kr.drewN nq⟩
        case measure => simp [intOf]; omega
      · have hneg : decide (cmpR key y u < 0) = false := decide_eq_false (fun h => by have := cmpR_neg.1 h; omega)
        have hneg2 : ¬ cmpR key y u < 0 := fun h => by have := cmpR_neg.1 h; omega
        have hneg3 : (!decide (cmpR key y u < 0)) = true := by simpa using hneg2
        have hfin := Lib.hid (hup.out hxy)
        clear hxy
        rw [hneg3]
        go_wp2_with fail
        go_roundw
        case rel => exact ⟨mt + 1, j, by omega, by omega, hjm, by go_num, rfl, hfin, hrow, kr.drewN nq⟩
        case measure => simp [intOf]; omega
    · obtain rfl : i = j := by omega
      obtain ⟨X1, X2, hX12, hl1, hc1, hc2⟩ := cutLeq hs.out hai (by have := HM.out; omega)
      have D := Lib.hid (doneLeq (by rw [← hX12]; exact HX.out) hc1 hc2)
      have HX12 := Lib.hid hX12
      have hmi : i + X2.length = m := by have := HM.out; rw [hX12, List.length_append] at this; omega
      have HL1 : Hid (i = (P ++ X1).length) := by show _ = _; have := HA.out; simp; omega
      have H0 : Hid (RowI wo g n c (mvR (P ++ X1) y X2 S X2.length)) := by
        have := hrow.out
        rw [hX12] at this
        show RowI wo g n c (mvR (P ++ X1) y X2 S X2.length)
        unfold mvR
        rw [List.take_of_length_le (Nat.le_refl _), List.drop_eq_nil_of_le (Nat.le_refl _)]
        simpa using this
      clear hs hX12 hl1 hc1 hc2 hcy hxa
      go_wp2_with fail
      go_loopw [17] (fun s17 wr => ∃ (t : Nat), t ≤ X2.length ∧ s17 = .int .i64 ((i + t : Nat) : Int) ∧ Hid (RowI wr g n c (mvR (P ++ X1) y X2 S t)) ∧ Keeps w wr [g]) (fun s17 _ => (intOf s17).toNat)
      case atStart => exact ⟨X2.length, Nat.le_refl _, by rw [hmi], H0.out, kr⟩
      case round =>
        clear H0 kr
        obtain ⟨t, ht, rfl, hr, kr⟩ := hrel
        cases t with
        | succ t =>
          obtain ⟨u, e1, e2, e3⟩ := mvL_step (P := P ++ X1) (y := y) (T := S) (show t < X2.length by omega)
          rw [← HL1.out] at e1 e2 e3
          have c1 := hr.out.at e1
          have c2 := hr.out.at e2
          have f1 := hr.out.frozen (i + t)
          have f2 := hr.out.frozen (i + t + 1)
          have r2 : Hid (RowI ((wr.setCell ⟨g, i + t + 1, none⟩ (.int .i64 u)).setCell ⟨g, i + t, none⟩ (.int .i64 y)) g n c (mvR (P ++ X1) y X2 S t)) := by
            have := (hr.out.set (i + t + 1) u).set (i + t) y
            rw [e3] at this
            exact this
          have ha2 : i + t + 1 < n := by omega
          have ha1 : i + t < n := by omega
          have hT : t ≤ X2.length := by omega
          have kr2 := Lib.hid (((kr.setCell (a := ⟨g, i + t + 1, none⟩) (.inr (by simp)) (.int .i64 u)).setCell (a := ⟨g, i + t, none⟩) (.inr (by simp)) (.int .i64 y)).drew)
          have hik : i < i + t + 1 := by omega
          have e0 : i + (t + 1) = i + t + 1 := by omega
          rw [e0]
          have hik2 : (i : Int) < ((i + t : Nat) : Int) + 1 := by omega
          have ⟨k, hk⟩ : ∃ k, k = i + t := ⟨_, rfl⟩
          rw [← hk] at c1 c2 f1 f2 r2 ha1 ha2 kr2 hik hik2 ⊢
          have zk : ((k + 1 : Nat) : Int) = (k : Int) + 1 := by omega
          have z1 : (k : Int) + 1 - 1 = (k : Int) := by omega
          have s1 : IntKind.i64.wrap ((k : Int) + 1 - 1) = (k : Int) := by rw [z1]; exact IntWalk.i64_in _ (by omega)
          have s2 : ((k : Int) + 1).toNat = k + 1 := by omega
          have s3 : 0 ≤ (k : Int) + 1 := by omega
          have s4 : (k : Int) + 1 < (n : Int) := by omega
          clear e1 e2 e3 e0 hr
          have HK := Lib.hid hk
          clear hk
          have hne : k + 1 ≠ k := by omega
          go_wp2_with fail
          go_region
          go_wp2_with fail
          go_roundw
          case rel => exact ⟨t, hT, by rw [← HK.out], r2.out, kr2.out⟩
          case measure => simp [intOf] <;> omega
        | zero =>
          have hz : i + 0 = i := rfl
          rw [hz]
          have hii : ¬ ((i : Int) < (i : Int)) := by omega
          go_wp2_with fail
          go_end0
          refine ⟨rfl, ⟨X1 ++ y :: X2, ?_, by rw [HX12.out]; exact D.out.1, D.out.2⟩, kr⟩
          have := hr.out
          unfold mvR at this
          simpa using this

end Go.Proofs.Ythjbngnihcmedaa
