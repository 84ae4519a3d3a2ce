/-
  Merging two sorted neighbours in place: the general branch (slices' symMerge), and the whole.
-/
import Derived.Test.YthjbngnihcmedaaSo7
import Derived.Deep.DeepCutAuto
import Derived.Deep.CutRange
namespace Go.Proofs.Ythjbngnihcmedaa
set_option linter.unusedVariables false
set_option linter.unusedSimpArgs false
open Go.RowKit

/-- A test bv of two lengths, neither of them 0. -/
def BothSt (bv : Bool) (p q : Nat) : Prop := (bv = true ∧ 0 < p ∧ 0 < q) ∨ (bv = false ∧ (p = 0 ∨ q = 0))
theorem val_bool {a b : Bool} (h : a = b) : Value.bool a = Value.bool b := by rw [h]

/-- symMerge merges whatever is no longer than k. -/
def SymOk (gf : Nat) (lb : Array Value) (key : Int → Int) (ok : Int → Prop) (k : Nat) : Prop :=
  ∀ (g n c a m b : Nat) (P X Y S : List Int) (w : World), X.length + Y.length ≤ k → RowI w g n c (P ++ X ++ Y ++ S) → CmpOk Try.prog gf lb key g ok w → (∀ z ∈ P ++ X ++ Y ++ S, ok z) → Srt key X → Srt key Y → n ≤ 1000000 →
    a = P.length → m = a + X.length → b = m + Y.length → 0 < X.length → 0 < Y.length →
    Calls Try.prog 70 #[.slice (some ⟨g, 0, none⟩) n c, .int .i64 a, .int .i64 m, .int .i64 b, .func (.func gf) #[] lb] w (MergeEnd w g n c P (X ++ Y) S key)

set_option maxRecDepth 100000 in
set_option maxHeartbeats 8000000 in
theorem symGen_any (k g n c a m b : Nat) (P X Y S : List Int) (gf : Nat) (lb : Array Value) (key : Int → Int) (ok : Int → Prop) (w : World) (eg : ∀ args w, (callFunc gf args).run Try.prog w = .ok (.enter gf args) w) (IH : SymOk gf lb key ok k)
    (hk : X.length + Y.length ≤ k + 1) (h : RowI w g n c (P ++ X ++ Y ++ S)) (hc : CmpOk Try.prog gf lb key g ok w) (hok : ∀ z ∈ P ++ X ++ Y ++ S, ok z) (hX : Srt key X) (hY : Srt key Y) (hn : n ≤ 1000000) (ha : a = P.length) (hm : m = a + X.length) (hb : b = m + Y.length) (hX1 : 1 < X.length) (hY1 : 1 < Y.length) :
    Calls Try.prog 70 #[.slice (some ⟨g, 0, none⟩) n c, .int .i64 a, .int .i64 m, .int .i64 b, .func (.func gf) #[] lb] w (MergeEnd w g n c P (X ++ Y) S key) := by
  have hbn : b ≤ n := by have := h.1; simp at this; omega
  have hcap := h.cap
  have ham : a + 1 < m := by omega
  have hmb : m + 1 < b := by omega
  have hd0 : ((m : Int) - (a : Int) == 1) = false := by simp; omega
  have hd1 : ((b : Int) - (m : Int) == 1) = false := by simp; omega
  obtain ⟨mid, hmid1, hmid2, zmid⟩ : ∃ mid : Nat, 2 * mid ≤ a + b ∧ a + b ≤ 2 * mid + 1 ∧ ((a : Int) + (b : Int)) / 2 = (mid : Int) := ⟨(a + b) / 2, by omega, by omega, by omega⟩
  obtain ⟨s0, r0, has, hrm, hrX, hsY, hs0, hr0, hsr, hsel⟩ : ∃ s0 r0 : Nat, a ≤ s0 ∧ r0 ≤ mid ∧ r0 ≤ a + X.length ∧ mid ≤ s0 + Y.length ∧ (s0 = a ∨ mid = s0 + Y.length) ∧ (r0 = mid ∨ r0 = a + X.length) ∧ s0 ≤ r0 ∧
      ((mid < m ∧ (mid : Int) + (m : Int) - (b : Int) = (s0 : Int) ∧ r0 = mid) ∨ (¬ mid < m ∧ s0 = a ∧ r0 = m)) := by
    by_cases hc : mid < m
    · exact ⟨mid + m - b, mid, by omega, by omega, by omega, by omega, by omega, by omega, by omega, .inl ⟨hc, by omega, rfl⟩⟩
    · exact ⟨a, m, by omega, by omega, by omega, by omega, by omega, by omega, by omega, .inr ⟨hc, rfl, rfl⟩⟩
  have H := Lib.hid h
  have HC := Lib.hid hc
  have HOK := Lib.hid hok
  have HX := Lib.hid hX
  have HY := Lib.hid hY
  have HMON := Lib.hid (qCut_mono (a := a) hX hY has hrm hsY hrX)
  have HM := Lib.hid hm
  have HA := Lib.hid ha
  have HB := Lib.hid hb
  have HS0 := Lib.hid hs0
  have HR0 := Lib.hid hr0
  have HSEL := Lib.hid hsel
  have HIH := Lib.hid IH
  have hcx0 : Hid (∀ w, RowI w g n c (P ++ X ++ Y ++ S) → ∀ t u, X[t]? = some u → w.cell? ⟨g, a + t, none⟩ = some (.int .i64 u)) := fun w h t u hu => h.at (by
    have hlt := (List.getElem?_eq_some_iff.1 hu).1
    have e1 : P ++ X ++ Y ++ S = P ++ (X ++ (Y ++ S)) := by simp
    have e2 : a + t = P.length + t := by omega
    rw [e1, e2, List.getElem?_append_right (by omega), List.getElem?_append_left (by omega)]
    simpa using hu)
  have hcy0 : Hid (∀ w, RowI w g n c (P ++ X ++ Y ++ S) → ∀ t u, Y[t]? = some u → w.cell? ⟨g, m + t, none⟩ = some (.int .i64 u)) := fun w h t u hu => h.at (by
    have hlt := (List.getElem?_eq_some_iff.1 hu).1
    have e1 : P ++ X ++ Y ++ S = (P ++ X) ++ (Y ++ S) := by simp
    have e2 : m + t = (P ++ X).length + t := by simp; omega
    rw [e1, e2, List.getElem?_append_right (by omega), List.getElem?_append_left (by omega)]
    simpa using hu)
  clear h hc hok hX hY hb hm ha hs0 hr0 hsel IH
  go_enter Try.func70, Try.ntmps70
  go_upto_if 140 with fail
  go_cut [20, 21] (fun s20 s21 wx => s20 = .int .i64 (s0 : Int) ∧ s21 = .int .i64 (r0 : Int) ∧ wx = w)
  case first =>
    rcases HSEL.out with ⟨h1, h2, rfl⟩ | ⟨h1, rfl, rfl⟩
    · have hd : decide (r0 < m) = true := decide_eq_true h1
      go_wp2_with fail
      go_meet
      exact ⟨by first | rfl | (rw [h2]), rfl, rfl⟩
    · have hd : decide (mid < r0) = false := decide_eq_false h1
      go_wp2_with fail
      go_meet
      exact ⟨rfl, rfl, rfl⟩
  case rest =>
    obtain ⟨rfl, rfl, rfl⟩ := hcut
    obtain ⟨w, rfl⟩ : ∃ w, w = wc := ⟨_, rfl⟩
    clear HSEL
    go_wp2_with fail
    go_loopw [20, 21] (fun s20 s21 wr => ∃ (i j : Nat), s0 ≤ i ∧ i ≤ j ∧ j ≤ r0 ∧ s20 = .int .i64 i ∧ s21 = .int .i64 j ∧ Hid (SeaI (qCut key X Y a mid) s0 i j r0) ∧ Hid (RowI wr g n c (P ++ X ++ Y ++ S)) ∧ Keeps w wr [g]) (fun s20 s21 _ => (intOf s21).toNat - (intOf s20).toNat)
    case atStart => exact ⟨s0, r0, Nat.le_refl _, hsr, Nat.le_refl _, rfl, rfl, sea_start _ _ _, H, Keeps.refl _ _⟩
    case round =>
      obtain ⟨i, j, hsi, hij, hjr, rfl, rfl, hs, hrow, kr⟩ := hrel
      obtain ⟨wo, rfl⟩ : ∃ wo : World, wo = wr := ⟨_, rfl⟩
      clear H
      by_cases hlt : i < j
      · have hlt' : (i : Int) < (j : Int) := by omega
        obtain ⟨t, ht, ht2, zh⟩ : ∃ t : Nat, i ≤ a + t ∧ a + t < j ∧ ((i : Int) + (j : Int)) / 2 = ((a + t : Nat) : Int) := ⟨(i + j) / 2 - a, by omega, by omega, by omega⟩
        obtain ⟨u, hu⟩ : ∃ u, X[t]? = some u := ⟨_, List.getElem?_eq_getElem (by omega)⟩
        obtain ⟨q, hq⟩ : ∃ q : Nat, q + (a + t) = mid - 1 := ⟨mid - 1 - (a + t), by omega⟩
        obtain ⟨v, hv⟩ : ∃ v, Y[q]? = some v := ⟨_, List.getElem?_eq_getElem (by omega)⟩
        have hcu := hcx0.out wo hrow.out t u hu
        have hcv := hcy0.out wo hrow.out q v hv
        have hou := Lib.hid (HOK.out u (by have := List.mem_of_getElem? hu; simp [this]))
        have hov := Lib.hid (HOK.out v (by have := List.mem_of_getElem? hv; simp [this]))
        have hqq : mid - 1 - (a + t) = q := by omega
        have hup : Hid (key u ≤ key v → SeaI (qCut key X Y a mid) s0 (a + t + 1) j r0) := fun hc => sea_up HMON.out hs.out (by omega) ⟨u, v, by rw [Nat.add_sub_cancel_left]; exact hu, by rw [hqq]; exact hv, hc⟩
        have hdn : Hid (key v < key u → SeaI (qCut key X Y a mid) s0 i (a + t) r0) := fun hc => sea_dn HMON.out hs.out (by omega) (by
          rintro ⟨u', v', hu', hv', hle⟩
          rw [Nat.add_sub_cancel_left, hu] at hu'
          rw [hqq, hv] at hv'
          cases hu'; cases hv'; omega)
        have htn : a + t < n := by omega
        have hqn : m + q < n := by have := HB.out; have := (List.getElem?_eq_some_iff.1 hv).1; omega
        have zp : ((mid : Int) + (m : Int) - 1 - ((a + t : Nat) : Int)) = ((m + q : Nat) : Int) := by omega
        have sp : IntKind.i64.wrap ((mid : Int) + (m : Int) - 1 - ((a + t : Nat) : Int)) = ((m + q : Nat) : Int) := by rw [zp]; exact IntWalk.i64_in _ (by omega)
        have hm0 : a ≤ a + t := by omega
        generalize a + t = at' at *
        generalize m + q = mq at *
        clear hu hv hq hqq
        go_wp2_with fail
        go_quiet ((exact Calls.quiet_of (HC.out _ (kr.drewN _) _ _ hov.out hou.out)))
        rcases Int.lt_or_le (key v) (key u) with hxy | hxy
        · have hneg2 : cmpR key v u < 0 := cmpR_neg.2 hxy
          have hneg3 : (!decide (cmpR key v u < 0)) = false := by simpa using hneg2
          have hfin := Lib.hid (hdn.out hxy)
          clear hxy
          rw [hneg3]
          go_wp2_with fail
          go_roundw
          case rel => exact ⟨i, at', hsi, by omega, by omega, rfl, rfl, hfin, hrow, kr.drewN nq⟩
          case measure => simp [intOf]; omega
        · have hneg2 : ¬ cmpR key v u < 0 := fun h => by have := cmpR_neg.1 h; omega
          have hneg3 : (!decide (cmpR key v u < 0)) = true := by simpa using hneg2
          have hfin := Lib.hid (hup.out hxy)
          clear hxy
          rw [hneg3]
          go_wp2_with fail
          go_roundw
          case rel => exact ⟨at' + 1, j, by omega, by omega, hjr, by go_num, rfl, hfin, hrow, kr.drewN nq⟩
          case measure => simp [intOf]; omega
      · obtain rfl : i = j := by omega
        obtain ⟨e, he⟩ : ∃ e : Nat, i + e = mid := ⟨mid - i, by omega⟩
        obtain ⟨X1, X2, Y1, Y2, hX12, hY12, l1, l2, hc1, hc2⟩ := symCut HX.out HY.out hs.out hsi hjr has hrm hrX hsY HS0.out HR0.out he
        have lX2 : i + X2.length = m := by have := HM.out; rw [hX12, List.length_append] at this; omega
        have lY2 : m + e + Y2.length = b := by have := HB.out; rw [hY12, List.length_append] at this; omega
        have HX12 := Lib.hid hX12
        have HY12 := Lib.hid hY12
        have HL1 := Lib.hid l1
        have HL2 := Lib.hid l2
        have HC1 := Lib.hid hc1
        have HC2 := Lib.hid hc2
        have HLX := Lib.hid lX2
        have HLY := Lib.hid lY2
        have HK : Hid (X1.length + Y1.length ≤ k ∧ X2.length + Y2.length ≤ k) := by
          have h1 : X.length = X1.length + X2.length := by rw [hX12, List.length_append]
          have h2 : Y.length = Y1.length + Y2.length := by rw [hY12, List.length_append]
          exact ⟨by omega, by omega⟩
        have R0 : Hid (RowI wo g n c (P ++ X1 ++ X2 ++ (Y1 ++ Y2 ++ S))) := by
          have := hrow.out
          rw [hX12, hY12] at this
          show RowI wo g n c (P ++ X1 ++ X2 ++ (Y1 ++ Y2 ++ S))
          simpa using this
        have OK4 : Hid (∀ (A B C D : List Int), (∀ z, z ∈ A ++ B ++ C ++ D → z ∈ X1 ++ X2 ++ Y1 ++ Y2) → ∀ z ∈ P ++ A ++ B ++ (C ++ D ++ S), ok z) := fun A B C D hz z hm => by
          apply HOK.out z
          rw [hX12, hY12]
          simp only [List.mem_append] at hm hz ⊢
          rcases hm with ((hm | hm) | hm) | ((hm | hm) | hm)
          · simp [hm]
          · rcases hz z (by simp [hm]) with (((h | h) | h) | h) <;> simp [h]
          · rcases hz z (by simp [hm]) with (((h | h) | h) | h) <;> simp [h]
          · rcases hz z (by simp [hm]) with (((h | h) | h) | h) <;> simp [h]
          · rcases hz z (by simp [hm]) with (((h | h) | h) | h) <;> simp [h]
          · simp [hm]
        have zend : ((mid : Int) + (m : Int) - (i : Int)) = ((m + e : Nat) : Int) := by omega
        have hee : m + e ≤ b := by omega
        have hie : i ≤ m := by omega
        have him : i ≤ mid := by omega
        clear hX12 hY12 l1 l2 hc1 hc2 lX2 lY2 hs hrow he
        have ROT : Hid (0 < X2.length → 0 < Y1.length → Calls Try.prog 71 #[.slice (some ⟨g, 0, none⟩) n c, .int .i64 i, .int .i64 m, .int .i64 ((m + e : Nat) : Int), .func (.func gf) #[] lb] wo fun e w' => e = .returned (.tuple #[]) ∧ RowI w' g n c (P ++ X1 ++ Y1 ++ X2 ++ (Y2 ++ S)) ∧ Keeps wo w' [g]) := fun h1 h2 =>
          rotate_any g n c i m (m + e) (P ++ X1) X2 Y1 (Y2 ++ S) _ wo (by have := R0.out; simpa using this) hn (by have := HL1.out; have := HA.out; simp; omega) (by have := HL1.out; have := HA.out; have := HLX.out; simp; omega) (by have := HL1.out; have := HA.out; have := HLX.out; have := HL2.out; simp; omega) h1 h2
        have NOROT : Hid (X2.length = 0 ∨ Y1.length = 0 → RowI wo g n c (P ++ X1 ++ Y1 ++ X2 ++ (Y2 ++ S))) := fun h => by
          have h0 := R0.out
          rcases h with h | h
          · have : X2 = [] := List.eq_nil_of_length_eq_zero h
            rw [this] at h0 ⊢
            simpa using h0
          · have : Y1 = [] := List.eq_nil_of_length_eq_zero h
            rw [this] at h0 ⊢
            simpa using h0
        go_upto_region 39 with fail
        go_cut [185] (fun s185 wx => ∃ bv : Bool, s185 = .bool bv ∧ Hid (BothSt bv X2.length Y1.length) ∧ wx = wo)
        case first => as_aux_lemma =>
          by_cases q1 : i < m
          · by_cases q2 : 0 < e
            · have q3 : m < m + e := by omega
              have G : Hid (BothSt true X2.length Y1.length) := .inl ⟨rfl, by have := HLX.out; omega, by have := HL2.out; omega⟩
              go_wp2_with fail
              go_meet
              exact ⟨true, by first | rfl | exact val_bool (decide_eq_true (by omega)), G, rfl⟩
            · have q3 : ¬ m < m + e := by omega
              have G : Hid (BothSt false X2.length Y1.length) := .inr ⟨rfl, .inr (by have := HL2.out; omega)⟩
              go_wp2_with fail
              go_meet
              exact ⟨false, by first | rfl | exact val_bool (decide_eq_false (by omega)), G, rfl⟩
          · have G : Hid (BothSt false X2.length Y1.length) := .inr ⟨rfl, .inl (by have := HLX.out; omega)⟩
            go_wp2_with fail
            go_meet
            exact ⟨false, by first | rfl | exact val_bool (decide_eq_false (by omega)), G, rfl⟩
        case rest =>
          obtain ⟨bv, rfl, hbv, rfl⟩ := hcut
          obtain ⟨wo, rfl⟩ : ∃ wo, wo = wc := ⟨_, rfl⟩
          go_upto_if 185 with fail
          go_cut [] (fun wx => Hid (RowI wx g n c (P ++ X1 ++ Y1 ++ X2 ++ (Y2 ++ S))) ∧ Keeps w wx [g])
          case first => as_aux_lemma =>
            rcases hbv.out with ⟨rfl, h1, h2⟩ | ⟨rfl, h1⟩
            · have G := Lib.hid (ROT.out h1 h2)
              clear h1 h2
              go_wp2_with (go_at_call 71; refine G.out.mono ?_; rintro e w5 ⟨rfl, r5, k5⟩)
              go_meet
              exact ⟨r5, kr.trans k5 (fun x hx _ => hx)⟩
            · have G := Lib.hid (NOROT.out h1)
              clear h1
              go_wp2_with fail
              go_meet
              exact ⟨G, kr⟩
          case rest => as_aux_lemma =>
            obtain ⟨r5, k5⟩ := hcut
            obtain ⟨w5, rfl⟩ : ∃ w5, w5 = wc := ⟨_, rfl⟩
            clear ROT NOROT kr hbv R0
            have CAL : Hid (0 < X1.length → 0 < Y1.length → Calls Try.prog 70 #[.slice (some ⟨g, 0, none⟩) n c, .int .i64 a, .int .i64 i, .int .i64 mid, .func (.func gf) #[] lb] w5 (MergeEnd w5 g n c P (X1 ++ Y1) (X2 ++ Y2 ++ S) key)) := fun h1 h2 =>
              HIH.out g n c a i mid P X1 Y1 (X2 ++ Y2 ++ S) w5 HK.out.1 (by have := r5.out; simpa using this) (HC.out.keeps k5) (by have := OK4.out X1 Y1 X2 Y2 (by intro z; simp only [List.mem_append]; rintro (((h | h) | h) | h) <;> simp [h]); simpa using this)
                (by have := HX.out; rw [HX12.out] at this; exact this.left) (by have := HY.out; rw [HY12.out] at this; exact this.left) hn HA.out HL1.out.symm (by have := HL2.out; omega) h1 h2
            have NOC : Hid (X1.length = 0 ∨ Y1.length = 0 → ∃ Z1, RowI w5 g n c (P ++ Z1 ++ X2 ++ (Y2 ++ S)) ∧ EqF key (X1 ++ Y1) Z1 ∧ Srt key Z1) := fun h => ⟨X1 ++ Y1, by have := r5.out; simpa using this, EqF.refl _, by
              have sX := HX.out; rw [HX12.out] at sX
              have sY := HY.out; rw [HY12.out] at sY
              rcases h with h | h
              · have : X1 = [] := List.eq_nil_of_length_eq_zero h
                rw [this]; exact sY.left
              · have : Y1 = [] := List.eq_nil_of_length_eq_zero h
                rw [this, List.append_nil]; exact sX.left⟩
            go_upto_region 41 with fail
            go_cut [199] (fun s199 wx => ∃ bv : Bool, s199 = .bool bv ∧ Hid (BothSt bv X1.length Y1.length) ∧ wx = w5)
            case first => as_aux_lemma =>
              by_cases q1 : a < i
              · by_cases q2 : i < mid
                · have G : Hid (BothSt true X1.length Y1.length) := .inl ⟨rfl, by have := HL1.out; omega, by have := HL2.out; omega⟩
                  go_wp2_with fail
                  go_meet
                  exact ⟨true, by first | rfl | exact val_bool (decide_eq_true (by omega)), G, rfl⟩
                · have G : Hid (BothSt false X1.length Y1.length) := .inr ⟨rfl, .inr (by have := HL2.out; omega)⟩
                  go_wp2_with fail
                  go_meet
                  exact ⟨false, by first | rfl | exact val_bool (decide_eq_false (by omega)), G, rfl⟩
              · have G : Hid (BothSt false X1.length Y1.length) := .inr ⟨rfl, .inl (by have := HL1.out; omega)⟩
                go_wp2_with fail
                go_meet
                exact ⟨false, by first | rfl | exact val_bool (decide_eq_false (by omega)), G, rfl⟩
            case rest =>
              obtain ⟨bv, rfl, hbv, rfl⟩ := hcut
              obtain ⟨w5, rfl⟩ : ∃ w5, w5 = wc := ⟨_, rfl⟩
              go_upto_if 199 with fail
              go_cut [] (fun wx => Hid (∃ Z1, RowI wx g n c (P ++ Z1 ++ X2 ++ (Y2 ++ S)) ∧ EqF key (X1 ++ Y1) Z1 ∧ Srt key Z1) ∧ Keeps w wx [g])
              case first => as_aux_lemma =>
                rcases hbv.out with ⟨rfl, h1, h2⟩ | ⟨rfl, h1⟩
                · have G := Lib.hid (CAL.out h1 h2)
                  clear h1 h2
                  go_wp2_with (go_at_call 70; refine G.out.mono ?_; rintro e w6 ⟨rfl, ⟨Z1, r6, e6, s6⟩, k6⟩)
                  go_meet
                  exact ⟨⟨Z1, by simpa using r6, e6, s6⟩, k5.trans k6 (fun x hx _ => hx)⟩
                · have G := Lib.hid (NOC.out h1)
                  clear h1
                  go_wp2_with fail
                  go_meet
                  exact ⟨G, k5⟩
              case rest => as_aux_lemma =>
                obtain ⟨r6, k6⟩ := hcut
                obtain ⟨w6, rfl⟩ : ∃ w6, w6 = wc := ⟨_, rfl⟩
                clear CAL NOC k5 r5 hbv
                obtain ⟨Z1, r6, e6, t6⟩ := r6.out
                have R6 := Lib.hid r6
                have E6 := Lib.hid e6
                have T6 := Lib.hid t6
                clear r6 e6 t6
                have lZ : Hid (P.length + Z1.length = mid) := by show _ = _; have := E6.out.length; rw [List.length_append] at this; have := HL1.out; have := HL2.out; have := HA.out; omega
                have CAL : Hid (0 < X2.length → 0 < Y2.length → Calls Try.prog 70 #[.slice (some ⟨g, 0, none⟩) n c, .int .i64 mid, .int .i64 ((m + e : Nat) : Int), .int .i64 b, .func (.func gf) #[] lb] w6 (MergeEnd w6 g n c (P ++ Z1) (X2 ++ Y2) S key)) := fun h1 h2 =>
                  HIH.out g n c mid (m + e) b (P ++ Z1) X2 Y2 S w6 HK.out.2 (by have := R6.out; simpa using this) (HC.out.keeps k6) (by
                      have := OK4.out Z1 X2 Y2 [] (by
                        intro z; simp only [List.mem_append]; rintro (((h | h) | h) | h)
                        · have h' := E6.out.mem.2 h
                          rcases List.mem_append.1 h' with h' | h' <;> simp [h']
                        · simp [h]
                        · simp [h]
                        · cases h)
                      simpa using this)
                    (by have := HX.out; rw [HX12.out] at this; exact this.right) (by have := HY.out; rw [HY12.out] at this; exact this.right) hn (by have := lZ.out; simp; omega) (by have := HL2.out; have := HLX.out; omega) HLY.out.symm h1 h2
                have FIN : Hid (∀ (w' : World) (Z2 : List Int), RowI w' g n c (P ++ Z1 ++ Z2 ++ S) → EqF key (X2 ++ Y2) Z2 → Srt key Z2 → Keeps w w' [g] → MergeEnd w g n c P (X ++ Y) S key (.returned (.tuple #[])) w') := fun w' Z2 r e s k => by
                  have D := symDone (by rw [← HX12.out]; exact HX.out) (by rw [← HY12.out]; exact HY.out) HC1.out HC2.out E6.out e T6.out s
                  refine ⟨rfl, ⟨Z1 ++ Z2, by simpa using r, ?_, D.2⟩, k⟩
                  rw [HX12.out, HY12.out]; exact D.1
                have NOC : Hid (X2.length = 0 ∨ Y2.length = 0 → Srt key (X2 ++ Y2)) := fun h => by
                  have sX := HX.out; rw [HX12.out] at sX
                  have sY := HY.out; rw [HY12.out] at sY
                  rcases h with h | h
                  · have : X2 = [] := List.eq_nil_of_length_eq_zero h
                    rw [this]; exact sY.right
                  · have : Y2 = [] := List.eq_nil_of_length_eq_zero h
                    rw [this, List.append_nil]; exact sX.right
                by_cases q1 : mid < m + e
                · by_cases q2 : m + e < b
                  · have G := Lib.hid (CAL.out (by have := HLX.out; omega) (by have := HLY.out; omega))
                    go_wp2_with (go_at_call 70; refine G.out.mono ?_; rintro e w7 ⟨rfl, ⟨Z2, r7, e7, s7⟩, k7⟩)
                    go_end0
                    exact FIN.out _ Z2 r7 e7 s7 (k6.trans k7 (fun x hx _ => hx))
                  · have G := Lib.hid (NOC.out (.inr (by have := HLY.out; omega)))
                    go_wp2_with fail
                    go_end0
                    exact FIN.out _ (X2 ++ Y2) (by have := R6.out; simpa using this) (EqF.refl _) G.out k6
                · have G := Lib.hid (NOC.out (.inl (by have := HLX.out; omega)))
                  go_wp2_with fail
                  go_end0
                  exact FIN.out _ (X2 ++ Y2) (by have := R6.out; simpa using this) (EqF.refl _) G.out k6

theorem symMerge_any (gf : Nat) (lb : Array Value) (key : Int → Int) (ok : Int → Prop) (eg : ∀ args w, (callFunc gf args).run Try.prog w = .ok (.enter gf args) w) : ∀ k, SymOk gf lb key ok k
  | 0 => fun g n c a m b P X Y S w hk h hc hok hX hY hn ha hm hb h1 h2 => by omega
  | k + 1 => fun g n c a m b P X Y S w hk h hc hok hX hY hn ha hm hb h1 h2 => by
    by_cases hX1 : X.length = 1
    · match X, hX1 with
      | [x], _ => exact symLeft_any g n c a m b P Y S x gf lb key ok w eg h hc hok hY hn ha (by simpa using hm) hb h2
    · by_cases hY1 : Y.length = 1
      · match Y, hY1 with
        | [y], _ => exact symRight_any g n c a m b P X S y gf lb key ok w eg h hc hok hX hn ha hm (by simpa using hb) (by omega)
      · exact symGen_any k g n c a m b P X Y S gf lb key ok w eg (symMerge_any gf lb key ok eg k) hk h hc hok hX hY hn ha hm hb (by omega) (by omega)

end Go.Proofs.Ythjbngnihcmedaa
