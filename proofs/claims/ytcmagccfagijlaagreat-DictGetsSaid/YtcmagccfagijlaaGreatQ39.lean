/-
  Walks over package weights: ways, described, EncodePacked.
  Walks over the reference of package weights: Varint, Halves.
  The law's helpers same, no, gets.
  What a description of a tree says, in one word: weights.Decode and the reference's Get; Decode without a cursor. (Printed by mkWu.py.)
-/
import Derived.Test.YtcmagccfagijlaaGreatQ5
import Derived.Test.YtcmagccfagijlaaGreatQ26
import Derived.Test.YtcmagccfagijlaaGreatQ37
import Derived.Laws.EntriesVeiled
import Derived.Test.YtcmagccfagijlaaGreatQ33
import Derived.Test.YtcmagccfagijlaaGreatQ38
namespace Go.Proofs.YtcmagccfagijlaaGreat
section
set_option linter.unusedVariables false
set_option linter.unusedSimpArgs false
set_option linter.unusedSectionVars false
open Go.RowKit
end

section
set_option linter.unusedVariables false
set_option linter.unusedSimpArgs false
set_option linter.unusedSectionVars false
open Go.RowKit
end

section
set_option linter.unusedVariables false
set_option linter.unusedSimpArgs false
set_option linter.unusedSectionVars false
open Go.RowKit
end

section
set_option linter.unusedVariables false
set_option linter.unusedSimpArgs false
set_option linter.unusedSectionVars false
open Go.RowKit

/-- The tree of weights, with a position; or an error. -/
def finW (L : List Int) (K : Nat) : Except Int (List Int × Nat) := if okW L = true then .ok (tOf L, K) else .error 12
/-- The tree that a description at k says, and the position behind it; or an error. -/
def getW (B : List Int) (k : Nat) : Except Int (List Int × Nat) :=
  if numE B k 255 ≠ 0 then .error (numE B k 255) else
  if numX B k 255 = 0 then .error 12 else
  if B.length ≤ numK B k 255 then .error 3 else
  if byteX B (numK B k 255) = 0 then
    (if halvE B (numK B k 255 + 1) (numX B k 255) ≠ 0 then .error (halvE B (numK B k 255 + 1) (numX B k 255)) else
      finW (halvX B (numK B k 255 + 1) (numX B k 255)) (bytesK B (numK B k 255 + 1) (((numX B k 255 + 1) / 2 : Nat) : Int)))
  else if byteX B (numK B k 255) = 1 then
    (match (codedR B (numK B k 255 + 1) (numX B k 255)).1 with
      | .error n => .error n
      | .ok L => finW L (codedR B (numK B k 255 + 1) (numX B k 255)).2)
  else .error 12

theorem flowG_len {c : Nat → Cel} : ∀ {k : Nat} {R : List Bool} {now other : Nat} {out o : List Int}, flowG c k R now other out = .ok o → o.length = out.length + k
  | 0, R, now, other, out, o, h => by
    unfold flowG at h
    split at h
    · injection h with h
      rw [← h]; rfl
    · cases h
  | k + 1, R, now, other, out, o, h => by
    unfold flowG at h
    split at h
    · split at h
      · cases h
      · have := flowG_len h
        simp only [List.length_append, List.length_singleton] at this
        omega
    · have := flowG_len h
      simp only [List.length_append, List.length_singleton] at this
      omega
theorem flowD_len {g : Int} {norm B o : List Int} {n : Nat} (h : flowD g norm B n = .ok o) : o.length = n := by
  unfold flowD at h
  split at h
  · cases h
  · split at h
    · cases h
    · unfold flowP at h
      split at h
      · cases h
      · split at h
        · cases h
        · have := flowG_len h
          simpa using this
theorem codedR_len {B o : List Int} {k m : Nat} (h : (codedR B k m).1 = .ok o) : o.length = m := by
  unfold codedR at h
  split at h
  · cases h
  · split at h
    · cases h
    · split at h
      · cases h
      · exact flowD_len h
theorem numX_most {B : List Int} {k M : Nat} (h : numE B k M = 0) : numX B k M ≤ M := by
  unfold numX
  rw [if_pos h]
  unfold numE at h
  split at h
  · cases h
  · omega
/-- How Decode ends, in one word. -/
def DecAll (w : World) (p : Nat) (v : Value) (B : List Int) (Z : Except Int (List Int × Nat)) (e : Ending) (w' : World) : Prop :=
  match Z with
  | .ok (L, K) => DecEnd w p v B L 0 K e w'
  | .error n => ∃ K, DecEnd w p v B [] n K e w'
theorem decode_any (p k : Nat) (v : Value) (B : List Int) (w : World) (hc : Cur w p v B k) :
    Calls Tryz.prog 88 #[.pointer (some ⟨p, 0, none⟩)] w (DecAll w p v B (getW B k)) := by
  unfold getW
  by_cases h1 : numE B k 255 = 0
  · rw [if_neg (by simpa using h1)]
    by_cases h2 : numX B k 255 = 0
    · rw [if_pos h2]
      exact (decode_zero p k v B w hc h1 h2).mono fun e w' h => ⟨_, h⟩
    · rw [if_neg h2]
      have hX : 0 < numX B k 255 := by omega
      by_cases h3 : B.length ≤ numK B k 255
      · rw [if_pos h3]
        have hb : byteE B (numK B k 255) = 3 := by unfold byteE; rw [if_neg (by omega)]
        have := decode_byte p k v B w hc h1 hX (by rw [hb]; decide)
        rw [hb] at this
        exact this.mono fun e w' h => ⟨_, h⟩
      · rw [if_neg h3]
        have hb : byteE B (numK B k 255) = 0 := by unfold byteE; rw [if_pos (by omega)]
        have hk : byteK B (numK B k 255) = numK B k 255 + 1 := by unfold byteK; rw [if_pos (by omega)]
        by_cases h4 : byteX B (numK B k 255) = 0
        · rw [if_pos h4]
          by_cases h5 : halvE B (numK B k 255 + 1) (numX B k 255) = 0
          · rw [if_neg (by simpa using h5)]
            unfold finW
            cases ht : okW (halvX B (numK B k 255 + 1) (numX B k 255)) with
            | true =>
              rw [if_pos rfl]
              have := decode_yes p k v B w hc h1 hX hb h4 (by rw [hk]; exact h5) (by rw [hk]; exact ht)
              rw [hk] at this
              exact this
            | false =>
              rw [if_neg (by simp)]
              have := decode_tno p k v B w hc h1 hX hb h4 (by rw [hk]; exact h5) (by rw [hk]; exact ht)
              exact this.mono fun e w' h => ⟨_, h⟩
          · rw [if_pos h5]
            have := decode_halv p k v B w hc h1 hX hb h4 (by rw [hk]; exact h5)
            rw [hk] at this
            exact this.mono fun e w' h => ⟨_, h⟩
        · rw [if_neg h4]
          by_cases h6 : byteX B (numK B k 255) = 1
          · rw [if_pos h6]
            cases hh : (codedR B (numK B k 255 + 1) (numX B k 255)).1 with
            | error n =>
              have := decode_cod p k v B w hc h1 hX hb h6 (by rw [hk]; exact hh)
              exact this.mono fun e w' h => ⟨_, h⟩
            | ok L =>
              have hl := codedR_len hh
              have hm := numX_most h1
              simp only
              unfold finW
              cases ht : okW L with
              | true =>
                rw [if_pos rfl]
                have := decode_cyes p k v B w hc h1 hX hb h6 (by rw [hk]; exact hh) (by omega) ht
                rw [hk] at this
                exact this
              | false =>
                rw [if_neg (by simp)]
                have := decode_cno p k v B w hc h1 hX hb h6 (by rw [hk]; exact hh) (by omega) ht
                exact this.mono fun e w' h => ⟨_, h⟩
          · rw [if_neg h6]
            have hx := byteX_bound hc.byte (numK B k 255)
            have := decode_way p k v B w hc h1 hX hb (by omega)
            exact this.mono fun e w' h => ⟨_, h⟩
  · rw [if_pos h1]
    exact (decode_num p k v B w hc h1).mono fun e w' h => ⟨_, h⟩

/-! Without a cursor. -/
/-- How the reference's Get ends. -/
def GtRef (w : World) (Z : Except Int (List Int × Nat)) (e : Ending) (w' : World) : Prop :=
  Keeps w w' [] ∧ match Z with
    | .ok (L, K) => ∃ r, e = .returned (.tuple #[r, .int .i64 (K : Int), .int .i64 0]) ∧ RdI .i64 w' r L
    | .error n => n ≠ 0 ∧ ∃ (r : Value) (N : Nat), e = .returned (.tuple #[r, .int .i64 (N : Int), .int .i64 n]) ∧ RdI .i64 w' r []

set_option maxRecDepth 100000 in
set_option maxHeartbeats 8000000 in
theorem r16get_any (k : Nat) (v : Value) (B : List Int) (w : World) (hv : RdI .u8 w v B) (hl : B.length ≤ 100000) (hb : ∀ x ∈ B, 0 ≤ x ∧ x ≤ 255) (hk : k ≤ B.length) :
    Calls Tryz.prog 51 #[v, .int .i64 (k : Int)] w (GtRef w (getW B k)) := by
  obtain ⟨A0, n, cp, rfl, hn, -⟩ := hv.form
  have HN := Lib.hid (rvnumber_any k 255 _ B w hv (by omega) hb hk (by decide))
  rw [show ((255 : Nat) : Int) = 255 from rfl] at HN
  have hnk := numK_le (M := 255) hk
  have hmost : numE B k 255 = 0 → numX B k 255 ≤ 255 := fun h => numX_most h
  have hcap := hv.cap
  obtain ⟨Z, hZ⟩ : ∃ Z, getW B k = Z := ⟨_, rfl⟩
  rw [hZ]
  unfold getW at hZ
  obtain ⟨NX, hNX⟩ : ∃ N, numX B k 255 = N := ⟨_, rfl⟩
  obtain ⟨NK, hNK⟩ : ∃ N, numK B k 255 = N := ⟨_, rfl⟩
  obtain ⟨NE, hNE⟩ : ∃ N, numE B k 255 = N := ⟨_, rfl⟩
  rw [hNX, hNK, hNE] at HN hZ
  rw [hNK] at hnk
  rw [hNX, hNE] at hmost
  clear hNX hNK hNE
  by_cases hE : NE = 0
  · subst hE
    rw [if_neg (by simp)] at hZ
    have hNX5 := hmost rfl
    by_cases hX : NX = 0
    · subst hX
      rw [if_pos rfl] at hZ
      subst hZ
      clear hv hl hb hk hmost hn
      go_enter Tryz.func51, Tryz.ntmps51
      go_wp2_with (first
        | (go_at_call 54; go_loud (refine HN.out.mono ?_; rintro e w1 ⟨rfl, k1⟩)))
      exact bodyPost_ret (v := .tuple #[.slice none 0 0, .int .i64 (k : Int), .int .i64 12]) (by simp only [results, Tryz.results51]; go_simp) rfl ⟨k1, by decide, _, k, rfl, .nil⟩
    · rw [if_neg hX] at hZ
      have hX1 : ((NX : Int) == 0) = false := by simp; omega
      have hX2 : (NX == 0) = false := by simpa using hX
      by_cases hS : B.length ≤ NK
      · rw [if_pos hS] at hZ
        subst hZ
        have hge : decide ((n : Int) ≤ (NK : Int)) = true := decide_eq_true (by omega)
        have hgeN : decide (n ≤ NK) = true := decide_eq_true (by omega)
        clear hv hl hb hk hmost hn
        go_enter Tryz.func51, Tryz.ntmps51
        go_wp2_with (first
          | (go_at_call 54; go_loud (refine HN.out.mono ?_; rintro e w1 ⟨rfl, k1⟩)))
        exact bodyPost_ret (v := .tuple #[.slice none 0 0, .int .i64 (k : Int), .int .i64 3]) (by simp only [results, Tryz.results51]; go_simp) rfl ⟨k1, by decide, _, k, rfl, .nil⟩
      · rw [if_neg hS] at hZ
        have hge : decide ((n : Int) ≤ (NK : Int)) = false := decide_eq_false (by omega)
        have hgeN : decide (n ≤ NK) = false := decide_eq_false (by omega)
        obtain ⟨x, hx⟩ : ∃ x, B[NK]? = some x := ⟨_, List.getElem?_eq_getElem (by omega)⟩
        obtain ⟨b0, o, rfl, hbb, hc⟩ := hv.at hx
        have hNKn : (NK : Int) < (n : Int) := by omega
        rw [byteX_some hx] at hZ
        by_cases hx0 : x = 0
        · subst hx0
          rw [if_pos rfl] at hZ
          have HH := Lib.hid (fun W (kk : Keeps w W []) => rhalv_any (NK + 1) NX _ B W (hv.keeps kk) hl hb (by omega) (by omega) (by omega))
          rw [show ((NK + 1 : Nat) : Int) = (NK : Int) + 1 from by omega] at HH
          obtain ⟨NK1, hNK1⟩ : ∃ D : Int, (NK : Int) + 1 = D := ⟨_, rfl⟩
          have hwN : wrap64 NK1 = NK1 := IntWalk.wrap64_in _ ⟨by omega, by omega⟩
          rw [hNK1] at HH
          have hxl : (halvX B (NK + 1) NX).length ≤ 255 := by unfold halvX; rw [List.length_take]; omega
          obtain ⟨L, hL⟩ : ∃ L, halvX B (NK + 1) NX = L := ⟨_, rfl⟩
          obtain ⟨HE, hHE⟩ : ∃ L, halvE B (NK + 1) NX = L := ⟨_, rfl⟩
          obtain ⟨KB, hKB⟩ : ∃ L, bytesK B (NK + 1) (((NX + 1) / 2 : Nat) : Int) = L := ⟨_, rfl⟩
          rw [hL, hHE, hKB] at HH hZ
          rw [hL] at hxl
          have HT := Lib.hid (fun W u (h : RdI .i64 W u L) => r_tree u L W h (by omega))
          clear hv hl hb hk hmost hn hx hL hHE hKB
          by_cases hh : HE = 0
          · subst hh
            rw [if_neg (by simp)] at hZ
            unfold finW at hZ
            cases ht : okW L with
            | true =>
              rw [ht, if_pos rfl] at hZ
              subst hZ
              have ht1 : treeOut L = tOf L := by simp [treeOut, ht]
              have ht2 : treeErr L = 0 := by simp [treeErr, ht]
              rw [ht1, ht2] at HT
              clear ht1 ht2 ht
              go_enter Tryz.func51, Tryz.ntmps51
              go_wp2_with (first
                | (go_at_call 54; go_loud (refine HN.out.mono ?_; rintro e w1 ⟨rfl, k1⟩; have c1 := (k1.cell (p := ⟨b0, o + NK, none⟩) hbb (by simp)).trans hc))
                | (go_at_call 99; go_loud (refine (HH.out _ k1).mono ?_; rintro e w2 ⟨k2, r, N, rfl, hr⟩; have kk2 := k1.then k2; obtain ⟨rd2, rfl⟩ := hr rfl; have RD2 := Lib.hid rd2; clear rd2 hr))
                | (go_at_call 101; go_loud (refine (HT.out _ _ RD2.out).mono ?_; rintro e w3 ⟨v3, rfl, rd3, -, k3⟩; have kk3 := kk2.then k3; have RD3 := Lib.hid rd3; clear rd3)))
              exact bodyPost_ret (v := .tuple #[v3, .int .i64 (N : Int), .int .i64 0]) (by simp only [results, Tryz.results51]; go_simp) rfl ⟨kk3, v3, rfl, RD3.out⟩
            | false =>
              rw [ht, if_neg (by simp)] at hZ
              subst hZ
              have ht1 : treeOut L = [] := by simp [treeOut, ht]
              have ht2 : treeErr L = 12 := by simp [treeErr, ht]
              rw [ht1, ht2] at HT
              clear ht1 ht2 ht
              go_enter Tryz.func51, Tryz.ntmps51
              go_wp2_with (first
                | (go_at_call 54; go_loud (refine HN.out.mono ?_; rintro e w1 ⟨rfl, k1⟩; have c1 := (k1.cell (p := ⟨b0, o + NK, none⟩) hbb (by simp)).trans hc))
                | (go_at_call 99; go_loud (refine (HH.out _ k1).mono ?_; rintro e w2 ⟨k2, r, N, rfl, hr⟩; have kk2 := k1.then k2; obtain ⟨rd2, rfl⟩ := hr rfl; have RD2 := Lib.hid rd2; clear rd2 hr))
                | (go_at_call 101; go_loud (refine (HT.out _ _ RD2.out).mono ?_; rintro e w3 ⟨v3, rfl, rd3, -, k3⟩; have kk3 := kk2.then k3; have RD3 := Lib.hid rd3; clear rd3)))
              exact bodyPost_ret (v := .tuple #[v3, .int .i64 (N : Int), .int .i64 12]) (by simp only [results, Tryz.results51]; go_simp) rfl ⟨kk3, by decide, v3, N, rfl, RD3.out⟩
          · rw [if_pos hh] at hZ
            subst hZ
            have hh1 : (HE != 0) = true := by simpa using hh
            have hh2 : (HE == 0) = false := by simpa using hh
            have HH0 := Lib.hid hh
            clear hh HT
            go_enter Tryz.func51, Tryz.ntmps51
            go_wp2_with (first
              | (go_at_call 54; go_loud (refine HN.out.mono ?_; rintro e w1 ⟨rfl, k1⟩; have c1 := (k1.cell (p := ⟨b0, o + NK, none⟩) hbb (by simp)).trans hc))
              | (go_at_call 99; go_loud (refine (HH.out _ k1).mono ?_; rintro e w2 ⟨k2, r, N, rfl, hr⟩; have kk2 := k1.then k2; clear hr)))
            exact bodyPost_ret (v := .tuple #[.slice none 0 0, .int .i64 (k : Int), .int .i64 HE]) (by simp only [results, Tryz.results51]; go_simp) rfl ⟨kk2, HH0.out, _, k, rfl, .nil⟩
        · rw [if_neg hx0] at hZ
          have hx01 : (x == 0) = false := by simpa using hx0
          by_cases hx1 : x = 1
          · subst hx1
            rw [if_pos rfl] at hZ
            have HH := Lib.hid (fun W (kk : Keeps w W []) => rcoded_any (NK + 1) NX _ B W (hv.keeps kk) hl hb (by omega) (by omega) (by omega))
            rw [show ((NK + 1 : Nat) : Int) = (NK : Int) + 1 from by omega] at HH
            obtain ⟨NK1, hNK1⟩ : ∃ D : Int, (NK : Int) + 1 = D := ⟨_, rfl⟩
            have hwN : wrap64 NK1 = NK1 := IntWalk.wrap64_in _ ⟨by omega, by omega⟩
            rw [hNK1] at HH
            unfold CodRef at HH
            have hcl : ∀ o, (codedR B (NK + 1) NX).1 = .ok o → o.length = NX := fun o h => codedR_len h
            obtain ⟨CR, hCR⟩ : ∃ L, codedR B (NK + 1) NX = L := ⟨_, rfl⟩
            rw [hCR] at HH hZ hcl
            obtain ⟨C1, C2⟩ := CR
            simp only at HH hZ hcl
            clear hv hl hb hk hmost hn hx hCR
            cases C1 with
            | error er =>
              simp only at HH hZ
              subst hZ
              clear hcl
              go_enter Tryz.func51, Tryz.ntmps51
              go_wp2_with (first
                | (go_at_call 54; go_loud (refine HN.out.mono ?_; rintro e w1 ⟨rfl, k1⟩; have c1 := (k1.cell (p := ⟨b0, o + NK, none⟩) hbb (by simp)).trans hc))
                | (go_at_call 100; go_loud (refine (HH.out _ k1).mono ?_; rintro e w2 ⟨k2, her, r, N, rfl⟩; have kk2 := k1.then k2; have her1 : (er != 0) = true := (by simpa using her); have her2 : (er == 0) = false := (by simpa using her); have HER := Lib.hid her; clear her)))
              exact bodyPost_ret (v := .tuple #[.slice none 0 0, .int .i64 (k : Int), .int .i64 er]) (by simp only [results, Tryz.results51]; go_simp) rfl ⟨kk2, HER.out, _, k, rfl, .nil⟩
            | ok L =>
              have hxl := hcl L rfl
              have HT := Lib.hid (fun W u (h : RdI .i64 W u L) => r_tree u L W h (by omega))
              simp only at HH hZ
              clear hcl
              unfold finW at hZ
              cases ht : okW L with
              | true =>
                rw [ht, if_pos rfl] at hZ
                subst hZ
                have ht1 : treeOut L = tOf L := by simp [treeOut, ht]
                have ht2 : treeErr L = 0 := by simp [treeErr, ht]
                rw [ht1, ht2] at HT
                clear ht1 ht2 ht hxl
                go_enter Tryz.func51, Tryz.ntmps51
                go_wp2_with (first
                  | (go_at_call 54; go_loud (refine HN.out.mono ?_; rintro e w1 ⟨rfl, k1⟩; have c1 := (k1.cell (p := ⟨b0, o + NK, none⟩) hbb (by simp)).trans hc))
                  | (go_at_call 100; go_loud (refine (HH.out _ k1).mono ?_; rintro e w2 ⟨k2, r, rfl, rd2⟩; have kk2 := k1.then k2; have RD2 := Lib.hid rd2; clear rd2))
                  | (go_at_call 101; go_loud (refine (HT.out _ _ RD2.out).mono ?_; rintro e w3 ⟨v3, rfl, rd3, -, k3⟩; have kk3 := kk2.then k3; have RD3 := Lib.hid rd3; clear rd3)))
                exact bodyPost_ret (v := .tuple #[v3, .int .i64 (C2 : Int), .int .i64 0]) (by simp only [results, Tryz.results51]; go_simp) rfl ⟨kk3, v3, rfl, RD3.out⟩
              | false =>
                rw [ht, if_neg (by simp)] at hZ
                subst hZ
                have ht1 : treeOut L = [] := by simp [treeOut, ht]
                have ht2 : treeErr L = 12 := by simp [treeErr, ht]
                rw [ht1, ht2] at HT
                clear ht1 ht2 ht hxl
                go_enter Tryz.func51, Tryz.ntmps51
                go_wp2_with (first
                  | (go_at_call 54; go_loud (refine HN.out.mono ?_; rintro e w1 ⟨rfl, k1⟩; have c1 := (k1.cell (p := ⟨b0, o + NK, none⟩) hbb (by simp)).trans hc))
                  | (go_at_call 100; go_loud (refine (HH.out _ k1).mono ?_; rintro e w2 ⟨k2, r, rfl, rd2⟩; have kk2 := k1.then k2; have RD2 := Lib.hid rd2; clear rd2))
                  | (go_at_call 101; go_loud (refine (HT.out _ _ RD2.out).mono ?_; rintro e w3 ⟨v3, rfl, rd3, -, k3⟩; have kk3 := kk2.then k3; have RD3 := Lib.hid rd3; clear rd3)))
                exact bodyPost_ret (v := .tuple #[v3, .int .i64 (C2 : Int), .int .i64 12]) (by simp only [results, Tryz.results51]; go_simp) rfl ⟨kk3, by decide, v3, C2, rfl, RD3.out⟩
          · rw [if_neg hx1] at hZ
            subst hZ
            have hx11 : (x == 1) = false := by simpa using hx1
            clear hv hl hb hk hmost hn hx
            go_enter Tryz.func51, Tryz.ntmps51
            go_wp2_with (first
              | (go_at_call 54; go_loud (refine HN.out.mono ?_; rintro e w1 ⟨rfl, k1⟩; have c1 := (k1.cell (p := ⟨b0, o + NK, none⟩) hbb (by simp)).trans hc)))
            exact bodyPost_ret (v := .tuple #[.slice none 0 0, .int .i64 (k : Int), .int .i64 12]) (by simp only [results, Tryz.results51]; go_simp) rfl ⟨k1, by decide, _, k, rfl, .nil⟩
  · rw [if_pos hE] at hZ
    subst hZ
    have hE1 : (NE != 0) = true := by simpa using hE
    have hE2 : (NE == 0) = false := by simpa using hE
    have HE := Lib.hid hE
    clear hv hl hb hk hmost hE hn
    go_enter Tryz.func51, Tryz.ntmps51
    go_wp2_with (first
      | (go_at_call 54; go_loud (refine HN.out.mono ?_; rintro e w1 ⟨rfl, k1⟩)))
    exact bodyPost_ret (v := .tuple #[.slice none 0 0, .int .i64 (k : Int), .int .i64 NE]) (by simp only [results, Tryz.results51]; go_simp) rfl ⟨k1, HE.out, _, k, rfl, .nil⟩
end

end Go.Proofs.YtcmagccfagijlaaGreat
