/-
  A stable sort (slices' SortStableFunc): its contract.
-/
import Derived.Test.YthjbngnihcmedaaSo8
namespace Go.Proofs.Ythjbngnihcmedaa
set_option linter.unusedVariables false
set_option linter.unusedSimpArgs false
open Go.RowKit

/-- Each block of k is sorted. -/
def BlkS (key : Int → Int) (k : Nat) (L : List Int) : Prop := ∀ q, Srt key ((L.drop (q * k)).take k)
section
variable {key : Int → Int} {k q : Nat} {D R Z L A : List Int}
theorem blkS_nil : BlkS key k [] := fun q => by simp [Srt]
theorem blkS_append (hD : BlkS key k D) (hl : D.length = q * k) (hk : 0 < k) (hZ : Srt key Z) (hz : Z.length ≤ k) : BlkS key k (D ++ Z) := fun q' => by
  rcases Nat.lt_trichotomy q' q with h | rfl | h
  · have h1 : (q' + 1) * k ≤ q * k := Nat.mul_le_mul_right k h
    rw [Nat.add_mul, Nat.one_mul] at h1
    rw [List.drop_append_of_le_length (by omega), List.take_append_of_le_length (by simp; omega)]
    exact hD q'
  · rw [List.drop_append, hl, Nat.sub_self, List.drop_zero, List.drop_eq_nil_of_le (by omega), List.nil_append, List.take_of_length_le hz]
    exact hZ
  · have h1 : (q + 1) * k ≤ q' * k := Nat.mul_le_mul_right k h
    rw [Nat.add_mul, Nat.one_mul] at h1
    rw [List.drop_eq_nil_of_le (by simp; omega), List.take_nil]
    exact Srt.nil
theorem blkS_tail (h : BlkS key k (A ++ R)) (hl : A.length = q * k) : BlkS key k R := fun q' => by
  have := h (q + q')
  rw [Nat.add_mul, ← hl, List.drop_append, List.drop_eq_nil_of_le (by omega), List.nil_append, Nat.add_sub_cancel_left] at this
  exact this
theorem blkS_head (h : BlkS key k R) : Srt key (R.take k) := by have := h 0; simpa using this
theorem blkS_next (h : BlkS key k R) : Srt key ((R.drop k).take k) := by have := h 1; simpa using this
theorem blkS_all (h : BlkS key k L) (hl : L.length ≤ k) : Srt key L := by
  have := blkS_head h
  rwa [List.take_of_length_le hl] at this
end

/-- How a sort ends. -/
def SortEnd (w : World) (g n c : Nat) (L : List Int) (key : Int → Int) (e : Ending) (w' : World) : Prop :=
  e = .returned (.tuple #[]) ∧ (∃ Z, RowI w' g n c Z ∧ EqF key L Z ∧ Srt key Z) ∧ Keeps w w' [g]

/-- The blocks of 20, then of 40 and so on: what is done in one pass. -/
def PassSt (key : Int → Int) (L : List Int) (k k2 a : Nat) (X : List Int) : Prop := ∃ D R q, X = D ++ R ∧ EqF key L X ∧ BlkS key k2 D ∧ BlkS key k R ∧ D.length = a ∧ a = q * k2

section
variable {key : Int → Int} {L X : List Int} {k k2 a n : Nat}
theorem pass_merge (h : PassSt key L k (2 * k) a X) (hk : 0 < k) (hn : X.length = n) (hb : a + 2 * k ≤ n) : ∃ D Y1 Y2 R2, X = D ++ Y1 ++ Y2 ++ R2 ∧ D.length = a ∧ Y1.length = k ∧ Y2.length = k ∧ Srt key Y1 ∧ Srt key Y2 ∧
    ∀ Z, EqF key (Y1 ++ Y2) Z → Srt key Z → PassSt key L k (2 * k) (a + 2 * k) (D ++ Z ++ R2) := by
  obtain ⟨D, R, q, rfl, h2, h3, h4, h5, h6⟩ := h
  have hR : 2 * k ≤ R.length := by simp at hn; omega
  have e : R = R.take k ++ ((R.drop k).take k ++ (R.drop k).drop k) := by rw [List.take_append_drop, List.take_append_drop]
  refine ⟨D, R.take k, (R.drop k).take k, (R.drop k).drop k, ?_, h5, by simp; omega, by simp; omega, blkS_head h4, blkS_next h4, fun Z hZ sZ => ⟨D ++ Z, (R.drop k).drop k, q + 1, rfl, ?_, ?_, ?_, ?_, ?_⟩⟩
  · rw [List.append_assoc, List.append_assoc, ← e]
  · refine h2.trans ?_
    have e1 := hZ.mid D ((R.drop k).drop k)
    rw [show D ++ (R.take k ++ (R.drop k).take k) ++ (R.drop k).drop k = D ++ R by rw [List.append_assoc, List.append_assoc, ← e]] at e1
    exact e1
  · have hZl := hZ.length
    rw [List.length_append] at hZl
    exact blkS_append h3 (by rw [h5, h6]) (by omega) sZ (by rw [← hZl]; simp; omega)
  · have h4' := h4
    rw [e, ← List.append_assoc] at h4'
    exact blkS_tail (q := 2) h4' (by simp; omega)
  · have hZl := hZ.length
    rw [List.length_append] at hZl
    rw [List.length_append, ← hZl, h5]
    simp; omega
  · rw [Nat.add_mul, ← h6]; omega
theorem pass_last (h : PassSt key L k (2 * k) a X) (hk : 0 < k) (hn : X.length = n) (hb : ¬ a + 2 * k ≤ n) (hm : a + k < n) : ∃ D Y1 Y2, X = D ++ Y1 ++ Y2 ++ [] ∧ D.length = a ∧ Y1.length = k ∧ a + k + Y2.length = n ∧ Srt key Y1 ∧ Srt key Y2 ∧
    ∀ Z, EqF key (Y1 ++ Y2) Z → Srt key Z → EqF key L (D ++ Z ++ []) ∧ BlkS key (2 * k) (D ++ Z ++ []) := by
  obtain ⟨D, R, q, rfl, h2, h3, h4, h5, h6⟩ := h
  have hR : D.length + R.length = n := by simpa using hn
  have e : R = R.take k ++ R.drop k := (List.take_append_drop _ _).symm
  have h1 := blkS_next h4
  rw [List.take_of_length_le (by simp; omega)] at h1
  refine ⟨D, R.take k, R.drop k, by simp, h5, by simp; omega, by simp; omega, blkS_head h4, h1, fun Z hZ sZ => ?_⟩
  rw [List.append_nil]
  have hZl := hZ.length
  rw [← e] at hZl hZ
  exact ⟨h2.trans ((EqF.refl D).append hZ), blkS_append h3 (by rw [h5, h6]) (by omega) sZ (by omega)⟩
theorem pass_rest (h : PassSt key L k (2 * k) a X) (hk : 0 < k) (hn : X.length = n) (hb : ¬ a + 2 * k ≤ n) (hm : ¬ a + k < n) : EqF key L X ∧ BlkS key (2 * k) X := by
  obtain ⟨D, R, q, rfl, h2, h3, h4, h5, h6⟩ := h
  have hR : D.length + R.length = n := by simpa using hn
  exact ⟨h2, blkS_append h3 (by rw [h5, h6]) (by omega) (blkS_all h4 (by omega)) (by omega)⟩
theorem pass_start (h : EqF key L X) (hb : BlkS key k X) : PassSt key L k (2 * k) 0 X := ⟨[], X, 0, rfl, h, blkS_nil, hb, rfl, by simp⟩
end

/-- The first pass: blocks of 20. -/
def FirstSt (key : Int → Int) (L : List Int) (a : Nat) (X : List Int) : Prop := ∃ D R q, X = D ++ R ∧ EqF key L X ∧ BlkS key 20 D ∧ D.length = a ∧ a = q * 20
section
variable {key : Int → Int} {L X : List Int} {a n : Nat}
theorem first_step (h : FirstSt key L a X) (hn : X.length = n) (hb : a + 20 ≤ n) : ∃ D M R, X = D ++ M ++ R ∧ D.length = a ∧ M.length = 20 ∧ ∀ Z, EqF key M Z → Srt key Z → FirstSt key L (a + 20) (D ++ Z ++ R) := by
  obtain ⟨D, R, q, rfl, h2, h3, h5, h6⟩ := h
  have hR : D.length + R.length = n := by simpa using hn
  have e : R = R.take 20 ++ R.drop 20 := (List.take_append_drop _ _).symm
  refine ⟨D, R.take 20, R.drop 20, by rw [List.append_assoc, ← e], h5, by simp; omega, fun Z hZ sZ => ⟨D ++ Z, R.drop 20, q + 1, rfl, ?_, ?_, ?_, by omega⟩⟩
  · have e1 := hZ.mid D (R.drop 20)
    rw [List.append_assoc D, ← e] at e1
    exact h2.trans e1
  · have hZl := hZ.length
    exact blkS_append h3 (by rw [h5, h6]) (by omega) sZ (by rw [← hZl]; simp; omega)
  · have hZl := hZ.length
    rw [List.length_append, ← hZl, h5]; simp; omega
theorem first_last (h : FirstSt key L a X) (hn : X.length = n) (hb : ¬ a + 20 ≤ n) : ∃ D M, X = D ++ M ++ [] ∧ D.length = a ∧ a + M.length = n ∧ ∀ Z, EqF key M Z → Srt key Z → EqF key L (D ++ Z ++ []) ∧ BlkS key 20 (D ++ Z ++ []) := by
  obtain ⟨D, R, q, rfl, h2, h3, h5, h6⟩ := h
  have hR : D.length + R.length = n := by simpa using hn
  refine ⟨D, R, by simp, h5, by omega, fun Z hZ sZ => ?_⟩
  rw [List.append_nil]
  have hZl := hZ.length
  exact ⟨h2.trans ((EqF.refl D).append hZ), blkS_append h3 (by rw [h5, h6]) (by omega) sZ (by omega)⟩
end

set_option maxRecDepth 100000 in
set_option maxHeartbeats 8000000 in
theorem stable_any (g n c : Nat) (L : List Int) (gf : Nat) (lb : Array Value) (key : Int → Int) (ok : Int → Prop) (w : World) (eg : ∀ args w, (callFunc gf args).run Try.prog w = .ok (.enter gf args) w)
    (h : RowI w g n c L) (hc : CmpOk Try.prog gf lb key g ok w) (hok : ∀ z ∈ L, ok z) (hn : n ≤ 1000000) :
    Calls Try.prog 65 #[.slice (some ⟨g, 0, none⟩) n c, .int .i64 n, .func (.func gf) #[] lb] w (SortEnd w g n c L key) := by
  have hcap := h.cap
  have H := Lib.hid h
  have HC := Lib.hid hc
  have HOK : Hid (∀ X, EqF key L X → ∀ z ∈ X, ok z) := fun X e z hz => hok z (e.mem.2 hz)
  have F0 : Hid (FirstSt key L 0 L) := ⟨[], L, 0, rfl, EqF.refl _, blkS_nil, rfl, rfl⟩
  clear h hc hok
  go_enter Try.func65, Try.ntmps65
  go_wp2_with fail
  go_loopw [7, 8] (fun s7 s8 wr => ∃ (a : Nat) (X : List Int), a ≤ n ∧ s7 = .int .i64 a ∧ s8 = .int .i64 ((a + 20 : Nat) : Int) ∧ Hid (FirstSt key L a X) ∧ Hid (RowI wr g n c X) ∧ Keeps w wr [g]) (fun s7 _ _ => n - (intOf s7).toNat)
  case atStart => exact ⟨0, L, Nat.zero_le _, rfl, rfl, F0, H, Keeps.refl _ _⟩
  case round =>
    obtain ⟨a, X, han, rfl, rfl, hF, hR, kr⟩ := hrel
    obtain ⟨wo, rfl⟩ : ∃ wo : World, wo = wr := ⟨_, rfl⟩
    clear F0 H
    have HOX := Lib.hid (HOK.out X (by obtain ⟨D, R, q, h1, h2, -⟩ := hF.out; exact h2))
    by_cases hb : a + 20 ≤ n
    · obtain ⟨D, M, R, rfl, l1, l2, hst⟩ := first_step hF.out hR.out.1 hb
      have G := Lib.hid (insertion_any g n c a (a + 20) D M R gf lb key ok wo eg hR.out (HC.out.keeps kr) HOX.out hn l1.symm (by omega))
      have HST := Lib.hid hst
      clear l1 l2 hst
      go_wp2_with fail
      refine G.out.mono ?_
      rintro e w5 ⟨rfl, ⟨Z, r5, e5, s5⟩, k5⟩
      have R5 := Lib.hid r5
      have F5 := Lib.hid (HST.out Z e5 s5)
      clear r5 e5 s5
      go_wp2_with fail
      go_roundw
      case rel => exact ⟨a + 20, D ++ Z ++ R, hb, by go_num, by go_num, F5, R5, kr.trans k5 (fun x hx _ => hx)⟩
      case measure => simp [intOf]; omega
    · obtain ⟨D, M, rfl, l1, l2, hst⟩ := first_last hF.out hR.out.1 hb
      have G := Lib.hid (insertion_any g n c a n D M [] gf lb key ok wo eg hR.out (HC.out.keeps kr) HOX.out hn l1.symm (by omega))
      have HST := Lib.hid hst
      clear l1 l2 hst
      go_wp2_with fail
      refine G.out.mono ?_
      rintro e w5 ⟨rfl, ⟨Z, r5, e5, s5⟩, k5⟩
      obtain ⟨E5, B5⟩ := HST.out Z e5 s5
      have R5 := Lib.hid r5
      have E5' := Lib.hid E5
      have B5' := Lib.hid B5
      have k5' := kr.trans k5 (fun x hx _ => hx)
      clear r5 e5 s5 E5 B5 kr k5 hF hR HST G HOX hb
      generalize D ++ Z ++ [] = X5 at *
      go_wp2_with fail
      go_loopw [6] (fun s6 wr => ∃ (k : Nat) (X : List Int), 0 < k ∧ k ≤ 2 * n + 20 ∧ s6 = .int .i64 k ∧ Hid (EqF key L X) ∧ Hid (BlkS key k X) ∧ Hid (RowI wr g n c X) ∧ Keeps w wr [g]) (fun s6 _ => n - (intOf s6).toNat)
      case atStart => exact ⟨20, X5, by omega, by omega, rfl, E5', B5', R5, k5'⟩
      case round =>
        clear E5' B5' R5 k5'
        obtain ⟨k, X, hk0, hk2, rfl, hE, hB, hR, kr⟩ := hrel
        obtain ⟨wk, rfl⟩ : ∃ wk : World, wk = wr := ⟨_, rfl⟩
        by_cases hkn : k < n
        · have P0 := Lib.hid (pass_start hE.out hB.out)
          have hkI : (k : Int) < (n : Int) := by omega
          clear hE hB
          go_wp2_with fail
          go_loopw [7, 8] (fun s7 s8 wr => ∃ (a : Nat) (X : List Int), a ≤ n ∧ s7 = .int .i64 a ∧ s8 = .int .i64 ((a : Int) + 2 * (k : Int)) ∧ Hid (PassSt key L k (2 * k) a X) ∧ Hid (RowI wr g n c X) ∧ Keeps w wr [g]) (fun s7 _ _ => n - (intOf s7).toNat)
          case atStart => exact ⟨0, X, Nat.zero_le _, rfl, by go_num, P0, hR, kr⟩
          case round =>
            clear P0 hR kr
            obtain ⟨a, X, han, rfl, rfl, hP, hR, kr⟩ := hrel
            obtain ⟨wo, rfl⟩ : ∃ wo : World, wo = wr := ⟨_, rfl⟩
            have HOX := Lib.hid (HOK.out X (by obtain ⟨D, R, q, h1, h2, -⟩ := hP.out; exact h2))
            by_cases hb : a + 2 * k ≤ n
            · obtain ⟨D, Y1, Y2, R2, rfl, l1, l2, l3, s1, s2, hst⟩ := pass_merge hP.out hk0 hR.out.1 hb
              have G := Lib.hid (symMerge_any gf lb key ok eg _ g n c a (a + k) (a + 2 * k) D Y1 Y2 R2 wo (Nat.le_refl _) hR.out (HC.out.keeps kr) HOX.out s1 s2 hn l1.symm (by omega) (by omega) (by omega) (by omega))
              have HST := Lib.hid hst
              have hbI : (a : Int) + 2 * (k : Int) ≤ (n : Int) := by omega
              have e1 : ((a + k : Nat) : Int) = (a : Int) + (k : Int) := by omega
              have e2 : ((a + 2 * k : Nat) : Int) = (a : Int) + 2 * (k : Int) := by omega
              rw [e1, e2] at G
              clear l1 l2 l3 s1 s2 hst e1 e2
              go_wp2_with fail
              refine G.out.mono ?_
              rintro e w5 ⟨rfl, ⟨Z, r5, e5, s5⟩, k5⟩
              have R5 := Lib.hid r5
              have F5 := Lib.hid (HST.out Z e5 s5)
              clear r5 e5 s5
              go_wp2_with fail
              go_roundw
              case rel => exact ⟨a + 2 * k, D ++ Z ++ R2, hb, by go_num, by go_num, F5, R5, kr.trans k5 (fun x hx _ => hx)⟩
              case measure => simp [intOf]; omega
            · have hbI : ¬ ((a : Int) + 2 * (k : Int) ≤ (n : Int)) := by omega
              by_cases hm : a + k < n
              · obtain ⟨D, Y1, Y2, rfl, l1, l2, l3, s1, s2, hst⟩ := pass_last hP.out hk0 hR.out.1 hb hm
                have G := Lib.hid (symMerge_any gf lb key ok eg _ g n c a (a + k) n D Y1 Y2 [] wo (Nat.le_refl _) hR.out (HC.out.keeps kr) HOX.out s1 s2 hn l1.symm (by omega) (by omega) (by omega) (by omega))
                have HST := Lib.hid hst
                have hmI : (a : Int) + (k : Int) < (n : Int) := by omega
                have e1 : ((a + k : Nat) : Int) = (a : Int) + (k : Int) := by omega
                rw [e1] at G
                clear l1 l2 l3 s1 s2 hst e1
                go_wp2_with fail
                refine G.out.mono ?_
                rintro e w5 ⟨rfl, ⟨Z, r5, e5, s5⟩, k5⟩
                have R5 := Lib.hid r5
                obtain ⟨E5, B5⟩ := HST.out Z e5 s5
                have E6 := Lib.hid E5
                have B6 := Lib.hid B5
                clear r5 e5 s5 E5 B5
                go_wp2_with fail
                go_roundw
                case rel => exact ⟨2 * k, D ++ Z ++ [], by omega, by omega, by go_num, E6, B6, R5, kr.trans k5 (fun x hx _ => hx)⟩
                case measure => simp [intOf]; omega
              · obtain ⟨E5, B5⟩ := pass_rest hP.out hk0 hR.out.1 hb hm
                have E6 := Lib.hid E5
                have B6 := Lib.hid B5
                have hmI : ¬ ((a : Int) + (k : Int) < (n : Int)) := by omega
                clear E5 B5
                go_wp2_with fail
                go_roundw
                case rel => exact ⟨2 * k, X, by omega, by omega, by go_num, E6, B6, hR, kr⟩
                case measure => simp [intOf]; omega
        · have hS := Lib.hid (blkS_all hB.out (by have := hR.out.1; omega))
          have hkI : ¬ ((k : Int) < (n : Int)) := by omega
          go_wp2_with fail
          go_end0
          exact ⟨rfl, ⟨X, hR.out, hE.out, hS.out⟩, kr⟩

theorem stable_none (v : Value) (gv : Value) (w : World) :
    Calls Try.prog 65 #[.slice none 0 0, .int .i64 0, gv] w fun e w' => e = .returned (.tuple #[]) ∧ w = w' := by
  have G : Hid (Calls Try.prog 69 #[.slice none 0 0, .int .i64 0, .int .i64 0, gv] w fun e w' => e = .returned (.tuple #[]) ∧ w = w') := by
    show Calls _ _ _ _ _
    go_enter Try.func69, Try.ntmps69
    go_wp2_with fail
    refine wp_loop_rounds 1 ?_
    rw [rounds_succ]
    go_wp2_with fail
    go_end0
    exact ⟨rfl, rfl⟩
  go_enter Try.func65, Try.ntmps65
  go_wp2_with fail
  refine wp_loop_rounds 1 ?_
  rw [rounds_succ]
  go_wp2_with fail
  refine G.out.mono ?_
  rintro e w5 ⟨rfl, rfl⟩
  go_wp2_with fail
  refine wp_loop_rounds 1 ?_
  rw [rounds_succ]
  go_wp2_with fail
  go_end0
  exact ⟨rfl, rfl⟩

/-- SortStableFunc over a slice of numbers of the call's own. -/
theorem sortStable_any (g n c : Nat) (L : List Int) (gf : Nat) (lb : Array Value) (key : Int → Int) (ok : Int → Prop) (w : World) (eg : ∀ args w, (callFunc gf args).run Try.prog w = .ok (.enter gf args) w)
    (h : RowI w g n c L) (hc : CmpOk Try.prog gf lb key g ok w) (hok : ∀ z ∈ L, ok z) (hn : n ≤ 1000000) :
    Calls Try.prog 57 #[.slice (some ⟨g, 0, none⟩) n c, .func (.func gf) #[] lb] w (SortEnd w g n c L key) := by
  have G := Lib.hid (stable_any g n c L gf lb key ok w eg h hc hok hn)
  clear h hc hok eg
  go_enter Try.func57, Try.ntmps57
  go_wp2_with fail
  refine G.out.mono ?_
  rintro e w5 ⟨rfl, h5, k5⟩
  go_wp2_with fail
  go_end0
  exact ⟨rfl, h5, k5⟩
theorem sortStable_none (gv : Value) (w : World) :
    Calls Try.prog 57 #[.slice none 0 0, gv] w fun e w' => e = .returned (.tuple #[]) ∧ w = w' := by
  have G := Lib.hid (stable_none gv gv w)
  go_enter Try.func57, Try.ntmps57
  go_wp2_with fail
  refine G.out.mono ?_
  rintro e w5 ⟨rfl, rfl⟩
  go_wp2_with fail
  go_end0
  exact ⟨rfl, rfl⟩

end Go.Proofs.Ythjbngnihcmedaa
