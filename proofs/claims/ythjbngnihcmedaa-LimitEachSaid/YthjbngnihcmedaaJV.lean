/-
  Walks over package limit: Kraft.
-/
import Derived.Test.YthjbngnihcmedaaJU
namespace Go.Proofs.Ythjbngnihcmedaa
set_option linter.unusedVariables false
set_option linter.unusedSimpArgs false
open Go.RowKit

def kraftS (l : List Int) : List Int → Nat
  | [] => 0
  | s :: t => 2 ^ (60 - (keyC l s).toNat) + kraftS l t
theorem kraftS_append (l : List Int) (t u : List Int) : kraftS l (t ++ u) = kraftS l t + kraftS l u := by
  induction t with
  | nil => simp [kraftS]
  | cons a t ih => simp only [List.cons_append, kraftS, ih]; omega
/-- The sum of Kraft, in parts of 2^60. -/
def kraftN (l : List Int) : Nat := kraftS l (usedL l)
def fitsL (l : List Int) : Bool := withinL 60 l && decide (kraftN l ≤ 1152921504606846976)
def fullL (l : List Int) : Bool := fitsL l && decide (kraftN l = 1152921504606846976)
def KraftEnd (w : World) (a b : Bool) (e : Ending) (w' : World) : Prop := e = .returned (.tuple #[.bool a, .bool b]) ∧ Keeps w w' []
theorem pow60 {X : Nat} (h1 : 1 ≤ X) (h2 : X ≤ 60) : wrap64 ((2 : Int) ^ (60 - X)) = ((2 ^ (60 - X) : Nat) : Int) ∧ 2 ^ (60 - X) ≤ 576460752303423488 := by
  have h : (2:Nat) ^ (60 - X) ≤ 2 ^ 59 := Nat.pow_le_pow_right (by decide) (by omega)
  have h3 : (2 : Nat) ^ 59 = 576460752303423488 := by decide
  rw [h3] at h
  have h4 : ((2 : Int) ^ (60 - X)) = ((2 ^ (60 - X) : Nat) : Int) := by simp
  refine ⟨?_, h⟩
  rw [h4]
  generalize 2 ^ (60 - X) = N at *
  exact IntWalk.wrap64_in _ ⟨by omega, by omega⟩

set_option maxRecDepth 100000 in
set_option maxHeartbeats 4000000 in
theorem kraft_any (v : Value) (l : List Int) (w : World) (hv : RdI .i64 w v l) (hn : l.length ≤ 1000000) :
    Calls Try.prog 29 #[v] w (KraftEnd w (fitsL l) (fullL l)) := by
  have HW := Lib.hid (fun w' (k : Keeps w w' []) => within_any 60 v l w' (hv.keeps k) hn)
  have HU := Lib.hid (fun w' (k : Keeps w w' []) => used_any v l w' (hv.keeps k) hn)
  have HV := Lib.hid hv
  obtain ⟨A0, n, cp0, rfl, hnl, -⟩ := hv.form
  have HN := Lib.hid hnl
  have hul := usedL_len l
  obtain ⟨F, hF⟩ : ∃ F, F = fitsL l := ⟨_, rfl⟩
  obtain ⟨G, hG⟩ : ∃ G, G = fullL l := ⟨_, rfl⟩
  have HF := Lib.hid hF
  have HG := Lib.hid hG
  rw [← hF, ← hG]
  clear hv hnl hF hG
  go_enter Try.func29, Try.ntmps29
  go_wp2_with fail
  have k0 : Keeps w (w.alloc (.cells #[.slice A0 n cp0] 59)) [] := (Keeps.refl w []).alloc _
  have bx := Blk.new w #[.slice A0 n cp0] 59
  have G1 := HW.out _ k0
  cases h60 : withinL 60 l with
  | false =>
    rw [h60] at G1
    refine G1.mono ?_
    rintro e w1 ⟨rfl, k1⟩
    have hF2 : F = false := by rw [HF.out, fitsL, h60]; rfl
    have hG2 : G = false := by rw [HG.out, fullL, fitsL, h60]; rfl
    subst hF2 hG2
    clear HF HG G1
    go_wp2_with fail
    go_ret2
    exact ⟨rfl, k0.then k1⟩
  | true =>
    rw [h60] at G1
    refine G1.mono ?_
    rintro e w1 ⟨rfl, k1⟩
    have H60 := Lib.hid h60
    have hn256 : n ≤ 256 := by have := (withinL_iff.1 h60).1; have := HN.out; omega
    have hl256 : l.length ≤ 256 := (withinL_iff.1 h60).1
    replace bx := bx.keeps k1 (by simp)
    replace k0 := k0.then k1
    obtain ⟨x0, x1⟩ := bx.one
    clear k1 G1 h60
    go_wp2_with fail
    refine (HU.out _ k0).mono ?_
    rintro e w3 ⟨vu, rfl, own1, k1⟩
    obtain ⟨ad1, cp2, rfl⟩ := own_form own1
    have RU := Lib.hid (own_reads own1)
    replace bx := bx.keeps k1 (by simp)
    replace k0 := k0.then k1
    obtain ⟨x0, x1⟩ := bx.one
    clear k1 own1
    obtain ⟨UL, hUL⟩ : ∃ UL, UL = usedL l := ⟨_, rfl⟩
    have HUL := Lib.hid hUL
    rw [← hUL] at RU hul ⊢
    clear hUL
    obtain ⟨NU, hNU⟩ : ∃ NU, NU = UL.length := ⟨_, rfl⟩
    have HNU := Lib.hid hNU.symm
    rw [← hNU] at RU hul ⊢
    clear hNU
    go_wp2_with fail
    go_loopw [5, 18] (fun s5 s18 wr => ∃ k : Nat, k ≤ NU ∧ s18 = .int .i64 k ∧ s5 = .int .i64 (kraftS l (UL.take k) : Nat) ∧ Hid (kraftS l (UL.take k) ≤ 1152921504606846976) ∧ wr = w3) (fun _ s18 _ => NU - (intOf s18).toNat)
    case atStart => exact ⟨0, Nat.zero_le _, rfl, by simp [kraftS], by show _ ≤ _; simp [kraftS], rfl⟩
    case round =>
      obtain ⟨k, hk, rfl, rfl, hS, rfl⟩ := hrel
      by_cases hlt : k < NU
      · obtain ⟨sy, hsy⟩ : ∃ sy, UL[k]? = some sy := ⟨_, List.getElem?_eq_getElem (by have := HNU.out; omega)⟩
        obtain ⟨a, rfl, z, hz, hz0⟩ := usedL_mem (HUL.out ▸ List.mem_of_getElem? hsy)
        have hzb := (withinL_iff.1 H60.out).2 z (List.mem_of_getElem? hz)
        have han := (List.getElem?_eq_some_iff.1 hz).1
        obtain ⟨X, rfl⟩ : ∃ X : Nat, z = (X : Int) := ⟨z.toNat, by omega⟩
        have hX1 : 1 ≤ X := by omega
        have hX2 : X ≤ 60 := by omega
        obtain ⟨b1, o1, rfl, hb1, c1⟩ := RU.out.at hsy
        have hcap1 := RU.out.cap
        obtain ⟨b2, o2, rfl, hb2, c2⟩ := (HV.out.keeps k0).at hz
        have hcap2 := (HV.out).cap
        have hTK : UL.take (k + 1) = UL.take k ++ [(a : Int)] := by rw [List.take_add_one, hsy]; rfl
        have HTK : Hid (kraftS l (UL.take (k + 1)) = kraftS l (UL.take k) + 2 ^ (60 - X)) := by show _ = _; rw [hTK, kraftS_append]; simp [kraftS, keyC_at hz]
        have HTOT : Hid (kraftS l (UL.take (k + 1)) ≤ kraftN l) := by
          have e := kraftS_append l (UL.take (k + 1)) (UL.drop (k + 1))
          rw [List.take_append_drop] at e
          show _ ≤ _
          rw [kraftN, ← HUL.out, e]
          omega
        have hkI : (k : Int) < (NU : Int) := by omega
        have hk0 : (0 : Int) ≤ (k : Int) := Int.natCast_nonneg _
        have haI : (a : Int) < (n : Int) := by have := HN.out; omega
        have ha0 : (0 : Int) ≤ (a : Int) := Int.natCast_nonneg _
        have wsub : IntKind.i64.wrap (60 - (X : Int)) = ((60 - X : Nat) : Int) := by rw [IntWalk.i64_in _ (by omega)]; omega
        have hsum : Hid (wrap64 ((kraftS l (UL.take k) : Nat) + wrap64 ((2 : Int) ^ (60 - X))) = ((kraftS l (UL.take (k + 1)) : Nat) : Int)) := by
          obtain ⟨h3, h4⟩ := pow60 hX1 hX2
          have h5 := hS.out
          show _ = _
          rw [h3, HTK.out]
          clear h3
          generalize 2 ^ (60 - X) = P at *
          generalize kraftS l (UL.take k) = M at *
          rw [IntWalk.wrap64_in _ ⟨by omega, by omega⟩]
          omega
        clear hsy hz hTK hS HTK
        generalize kraftS l (UL.take k) = SM at *
        obtain ⟨SN, hSN⟩ : ∃ SN, SN = kraftS l (UL.take (k + 1)) := ⟨_, rfl⟩
        have HSN := Lib.hid hSN.symm
        rw [← hSN] at hsum HTOT
        clear hSN
        generalize hW2 : wrap64 ((SM : Int) + wrap64 ((2 : Int) ^ (60 - X))) = WW at hsum
        have HW2 := Lib.hid hW2
        clear H60 HU HW hzb hz0 hkI hk0 hW2
        go_wp2_with fail
        · have hgt : 1152921504606846976 < wrap64 ((SM : Int) + wrap64 ((2 : Int) ^ (60 - X))) := by assumption
          rw [HW2.out, hsum.out] at hgt
          have hF2 : F = false := by
            have h1 := HTOT.out
            rw [HF.out, fitsL, decide_eq_false (by omega), Bool.and_false]
          have hG2 : G = false := by rw [HG.out, fullL, ← HF.out, hF2]; rfl
          subst hF2 hG2
          go_ret2
          exact ⟨rfl, k0⟩
        · have hgt : wrap64 ((SM : Int) + wrap64 ((2 : Int) ^ (60 - X))) ≤ 1152921504606846976 := by assumption
          rw [HW2.out, hsum.out] at hgt
          go_roundw
          case rel => exact ⟨k + 1, by omega, by go_num, by rw [HW2.out, hsum.out, HSN.out], by show _ ≤ _; rw [HSN.out]; omega, trivial⟩
          case measure => simp [intOf]; omega
      · have hkn : k = NU := by omega
        subst hkn
        have hK : Hid (kraftS l (UL.take k) = kraftN l) := by
          show _ = _
          rw [List.take_of_length_le (by have := HNU.out; omega), HUL.out]; rfl
        have hF2 : F = true := by
          have h1 := hS.out
          rw [hK.out] at h1
          rw [HF.out, fitsL, H60.out, decide_eq_true h1]; rfl
        have hG2 : G = (((kraftS l (UL.take k) : Nat) : Int) == 1152921504606846976) := by
          rw [HG.out, fullL, ← HF.out, hF2, hK.out, Bool.true_and, Bool.eq_iff_iff]; simp; omega
        subst hF2
        have HG2 := Lib.hid hG2
        clear HF HG hG2 hS hK H60 HU HW
        go_wp2_with fail
        go_ret2
        exact ⟨by rw [HG2.out]; rfl, k0⟩

end Go.Proofs.Ythjbngnihcmedaa
