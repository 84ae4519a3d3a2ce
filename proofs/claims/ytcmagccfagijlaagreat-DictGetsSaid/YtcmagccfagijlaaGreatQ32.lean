/-
  Walks over package weights: tree.
-/
import Derived.Test.YtcmagccfagijlaaGreatQ5
import Derived.Test.YtcmagccfagijlaaGreatQ4
import Derived.Test.YtcmagccfagijlaaGreatQ14
import Derived.ArgAppend
namespace Go.Proofs.YtcmagccfagijlaaGreat
set_option linter.unusedVariables false
set_option linter.unusedSimpArgs false
set_option linter.unusedSectionVars false
open Go.RowKit

theorem own_some {w : World} {base e size n c : Nat} {ad : Option Addr} {xs : List Value} (hn : 0 < n) (h : w.ownsRow base e size (.slice ad n c) n xs) : ∃ g, ad = some ⟨g, 0, none⟩ ∧ base ≤ g := by
  rcases h.2 with h2 | ⟨g, cap, cur, h1, h2, -⟩
  · obtain ⟨h2, -⟩ := h2
    cases h2; omega
  · cases h1
    exact ⟨g, rfl, h2⟩
theorem blen_call (n : Nat) (hn : n ≤ 4294967295) (w : World) : Calls Tryz.prog 163 #[.int .u64 (n : Int)] w fun e w' => e = .returned (.int .i64 (Go.Lib.bitLen n)) ∧ w = w' :=
  (Tryz.bits_Len (n : Int) w (by omega) (by omega)).mono fun e w' h => ⟨by rw [h.1, Int.toNat_natCast], h.2.symm⟩
theorem has_call (v : Value) (l : List Int) (x : Int) (w : World) (hv : RdI .i64 w v l) (hn : l.length ≤ 1000000) : Calls Tryz.prog 164 #[v, .int .i64 x] w fun e w' => e = .returned (.bool (l.contains x)) ∧ w = w' := by
  obtain ⟨a, n, c, rfl, hl, -⟩ := hv.form
  by_cases h0 : 0 < n
  · obtain ⟨b, o, rfl, hb, hc⟩ := hv.addr h0
    have h := Tryz.slices_Contains_int b o n c l x w (by omega) (by omega) (fun j hj => by
      rw [List.getD_eq_getElem?_getD, List.getElem?_eq_getElem hj]
      exact hc j _ (List.getElem?_eq_getElem hj))
    rw [List.take_of_length_le (by omega)] at h
    exact h.mono fun e w' h => ⟨h.1, h.2.symm⟩
  · obtain rfl : n = 0 := by omega
    obtain rfl : l = [] := List.eq_nil_of_length_eq_zero hl.symm
    exact (Tryz.slices_Contains_int_empty a c x w).mono fun e w' h => ⟨h.1, h.2.symm⟩

theorem pow_sum {S X : Nat} (hX : X ≤ 11) (hS : S ≤ 1000000) : wrap64 ((S : Int) + wrap64 ((2 : Int) ^ X) / 2) = ((S + (if 0 < (X : Int) then 2 ^ (X - 1) else 0) : Nat) : Int) := by
  have h : X = 0 ∨ X = 1 ∨ X = 2 ∨ X = 3 ∨ X = 4 ∨ X = 5 ∨ X = 6 ∨ X = 7 ∨ X = 8 ∨ X = 9 ∨ X = 10 ∨ X = 11 := by omega
  rcases h with rfl | rfl | rfl | rfl | rfl | rfl | rfl | rfl | rfl | rfl | rfl | rfl <;> simp [wrap64] <;> omega
theorem pow_k {K : Nat} (hK : K ≤ 20) : wrap64 ((2 : Int) ^ K) = ((2 ^ K : Nat) : Int) ∧ 2 ^ K ≤ 1048576 := by
  have h2 : (2:Nat) ^ K ≤ 2 ^ 20 := Nat.pow_le_pow_right (by decide) hK
  have h3 : (2 : Nat) ^ 20 = 1048576 := by decide
  rw [h3] at h2
  have h4 : ((2 : Int) ^ K) = ((2 ^ K : Nat) : Int) := by simp
  refine ⟨?_, h2⟩
  rw [h4]
  generalize 2 ^ K = N at *
  exact IntWalk.wrap64_in _ ⟨by omega, by omega⟩

/-- The first k elements are turned. -/
def trF (f : Int → Int) (l : List Int) (k : Nat) : List Int := (l.take k).map f ++ l.drop k
theorem trF_zero (f : Int → Int) (l : List Int) : trF f l 0 = l := by simp [trF]
theorem trF_all (f : Int → Int) {l : List Int} {k : Nat} (h : l.length ≤ k) : trF f l k = l.map f := by simp [trF, List.take_of_length_le h, List.drop_eq_nil_of_le h]
theorem trF_get {f : Int → Int} {l : List Int} {k : Nat} {x : Int} (h : l[k]? = some x) : (trF f l k)[k]? = some x := by
  have hk := (List.getElem?_eq_some_iff.1 h).1
  have hl : ((l.take k).map f).length = k := by simp; omega
  unfold trF
  rw [List.getElem?_append_right (by omega), hl, Nat.sub_self, List.getElem?_drop, Nat.add_zero, h]
theorem trF_set {f : Int → Int} {l : List Int} {k : Nat} {x : Int} (h : l[k]? = some x) : (trF f l k).set k (f x) = trF f l (k + 1) := by
  obtain ⟨hk, hx⟩ := List.getElem?_eq_some_iff.1 h
  have hl : ((l.take k).map f).length = k := by simp; omega
  unfold trF
  rw [List.set_append_right _ _ (by omega), hl, Nat.sub_self, List.drop_eq_getElem_cons hk, List.set_cons_zero, take_next h]
  simp
theorem trF_same {f : Int → Int} {l : List Int} {k : Nat} {x : Int} (h : l[k]? = some x) (h0 : f x = x) : trF f l (k + 1) = trF f l k := by
  obtain ⟨hk, hx⟩ := List.getElem?_eq_some_iff.1 h
  unfold trF
  rw [take_next h, List.drop_eq_getElem_cons hk, hx]
  simp [h0]

/-- How tree ends. -/
def TreeEnd (w : World) (l : List Int) (e : Ending) (w' : World) : Prop := Keeps w w' [] ∧ (okW l = true → ∃ v, e = .returned (.tuple #[v, .int .i64 (vW l)]) ∧ RdI .i64 w' v (tOf l) ∧ Fresh w.heap.size v) ∧ (okW l = false → e = .panicked [raisedBy 12 false])
theorem TreeEnd.no {w w' : World} {l : List Int} (h : okW l = false) (k : Keeps w w' []) : TreeEnd w l (.panicked [raisedBy 12 false]) w' := ⟨k, (fun h' => by rw [h] at h'; cases h'), fun _ => rfl⟩

set_option maxRecDepth 100000 in
theorem wtree_len (v : Value) (l : List Int) (w : World) (hv : RdI .i64 w v l) (hn : l.length ≤ 1000000) (h : lenW l = false) : Calls Tryz.prog 130 #[v] w (TreeEnd w l) := by
  have HK : Hid (okW l = false) := by show _ = _; simp [okW, h]
  obtain ⟨A0, n, cp0, rfl, hnl, -⟩ := hv.form
  have hc : n = 0 ∨ 255 < n := by simp [lenW] at h; omega
  have HC := Lib.hid hc
  have hn' : n ≤ 1000000 := by omega
  clear hv hnl hn h hc
  rcases HC.out with rfl | hc
  · go_enter Tryz.func130, Tryz.ntmps130
    go_wp2_with fail
    refine (wis_no (by simp) 12 _).mono ?_
    rintro e w1 ⟨rfl, rfl⟩
    go_wp2_with fail
    exact ⟨rfl, TreeEnd.no HK.out (Keeps.refl _ _)⟩
  · have d1 : decide ((n : Int) < 256) = false := decide_eq_false (by omega)
    have d2 : decide ((0 : Int) < n) = true := decide_eq_true (by omega)
    go_enter Tryz.func130, Tryz.ntmps130
    go_wp2_with fail
    refine (wis_no (by simp [*]) 12 _).mono ?_
    rintro e w1 ⟨rfl, rfl⟩
    go_wp2_with fail
    exact ⟨rfl, TreeEnd.no HK.out (Keeps.refl _ _)⟩

set_option maxRecDepth 100000 in
set_option maxHeartbeats 4000000 in
theorem wtree_any (v : Value) (l : List Int) (w : World) (hv : RdI .i64 w v l) (hn : l.length ≤ 1000000) : Calls Tryz.prog 130 #[v] w (TreeEnd w l) := by
  cases hlen : lenW l with
  | false => exact wtree_len v l w hv hn hlen
  | true =>
  have HLEN := Lib.hid hlen
  obtain ⟨A0, n, cp0, rfl, hnl, -⟩ := hv.form
  have hc : 0 < n ∧ n < 256 := by simp [lenW] at hlen; omega
  obtain ⟨b, o, rfl, hb, hcell⟩ := hv.addr hc.1
  have hcap := hv.cap
  have HV := Lib.hid hv
  have HN := Lib.hid hnl
  have HCELL := Lib.hid hcell
  have hn0 : 0 < n := hc.1
  have hn1 : n < 256 := hc.2
  have d1 : decide ((n : Int) < 256) = true := decide_eq_true (by omega)
  have d2 : decide ((0 : Int) < n) = true := decide_eq_true (by omega)
  obtain ⟨i0, hi, hz0, hz1, hz2⟩ := info_parts Tryz.infoInt
  clear hv hnl hn hlen hc hcell
  go_enter Tryz.func130, Tryz.ntmps130
  go_wp2_with fail
  refine (wis_yes (by simp [*]) 12 _).mono ?_
  rintro e w1 ⟨rfl, rfl⟩
  clear d1 d2
  have Hi := Lib.hid hi
  clear hi
  go_wp2_with fail
  go_loop [4, 22] (fun s i => ∃ k : Nat, k ≤ n ∧ i = .int .i64 k ∧ s = .int .i64 (sumW (l.take k) : Nat) ∧ Hid ((l.take k).all (finM 11) = true)) (fun _ i => n - (intOf i).toNat)
  case atStart => exact ⟨0, Nat.zero_le _, rfl, rfl, by simp [Hid]⟩
  case round =>
    obtain ⟨k, hk, rfl, rfl, hall⟩ := hrel
    by_cases hlt : k < n
    · obtain ⟨x, hx⟩ : ∃ x, l[k]? = some x := ⟨_, List.getElem?_eq_getElem (by have := HN.out; omega)⟩
      have hc := HCELL.out k x hx
      have hkn : (k : Int) < (n : Int) := by omega
      have HST := Lib.hid (sumW_take hx)
      have HAL : Hid (finM 11 x = true → (l.take (k + 1)).all (finM 11) = true) := fun h => by rw [take_next hx, List.all_append, hall.out]; simp [h]
      have hs1 := sumW_le hall.out
      have hs2 : (l.take k).length ≤ k := List.length_take_le _ _
      have HBAD : Hid (finM 11 x = false → okW l = false) := fun h => by
        rw [Bool.eq_false_iff]
        intro ht
        simp only [okW, Bool.and_eq_true] at ht
        have := List.all_eq_true.1 ht.1.1.2 x (List.mem_of_getElem? hx)
        rw [h] at this; cases this
      obtain ⟨S, hS⟩ : ∃ S, S = sumW (l.take k) := ⟨_, rfl⟩
      rw [← hS] at hs1 HST ⊢
      have hS9 : S ≤ 1000000 := by omega
      clear hx hS hs1 hs2
      by_cases hx0 : 0 ≤ x
      · obtain ⟨X, rfl⟩ := Int.eq_ofNat_of_zero_le hx0
        have d0 : decide ((0 : Int) ≤ (X : Int)) = true := decide_eq_true (by omega)
        by_cases hX : X ≤ 11
        · have hX' : (X : Int) ≤ 11 := by omega
          have NAL := Lib.hid (HAL.out (finM_iff.2 ⟨by omega, by omega⟩))
          have HSUM : Hid (wrap64 ((S : Int) + wrap64 ((2 : Int) ^ X) / 2) = ((sumW (l.take (k + 1)) : Nat) : Int)) := by
            show _ = _
            rw [pow_sum hX hS9, HST.out, Int.toNat_natCast]
          clear HBAD HAL HST hS9
          go_wp2_with fail
          refine (wis_yes (by simp [*]) 12 _).mono ?_
          rintro e w5 ⟨rfl, rfl⟩
          go_wp2_with fail
          go_round
          case rel => exact ⟨k + 1, by omega, by go_num, by rw [HSUM.out], NAL⟩
          case measure => simp [intOf]; omega
        · have dX : decide ((X : Int) ≤ 11) = false := decide_eq_false (by omega)
          have NO := Lib.hid (HBAD.out (by simp [finM]; omega))
          clear HBAD HAL HST hS9
          go_wp2_with fail
          refine (wis_no (by simp [*]) 12 _).mono ?_
          rintro e w5 ⟨rfl, rfl⟩
          go_wp2_with fail
          exact ⟨rfl, TreeEnd.no NO.out (Keeps.refl _ _)⟩
      · have d0 : decide (0 ≤ x) = false := decide_eq_false (by omega)
        have NO := Lib.hid (HBAD.out (by simp [finM]; omega))
        clear HBAD HAL HST hS9
        go_wp2_with fail
        refine (wis_no (by simp [*]) 12 _).mono ?_
        rintro e w5 ⟨rfl, rfl⟩
        go_wp2_with fail
        exact ⟨rfl, TreeEnd.no NO.out (Keeps.refl _ _)⟩
    · obtain rfl : k = n := by omega
      have hel : l.take k = l := List.take_of_length_le (by have := HN.out; omega)
      have hall' := hall.out
      rw [hel] at hall' ⊢
      clear hall hel
      obtain ⟨s1, s2, s3, s4, s5, s6, s7, s8, s9⟩ := sums HLEN.out hall'
      obtain ⟨S, hS⟩ : ∃ S, S = sumW l := ⟨_, rfl⟩
      obtain ⟨K, hK⟩ : ∃ K, K = kW l := ⟨_, rfl⟩
      obtain ⟨R, hR⟩ : ∃ R, R = restW l := ⟨_, rfl⟩
      obtain ⟨V, hV⟩ : ∃ V, V = vW l := ⟨_, rfl⟩
      have HOK : Hid (okW l = ((decide (0 < S) && (decide (K ≤ 11) && decide (R = 2 ^ (V - 1)))) && (l ++ [(V : Int)]).contains 1)) := by
        show _ = _
        rw [okW, HLEN.out, hall', hS, hK, hR, hV]; simp
      have HLS := Lib.hid (fun w => blen_call S (by omega) w)
      have HLR := Lib.hid (fun w => blen_call R (by omega) w)
      have eK : Go.Lib.bitLen S = K := by rw [hK, hS]; rfl
      have eV : Go.Lib.bitLen R = V := by rw [hV, hR]; rfl
      rw [eK] at HLS
      rw [eV] at HLR
      have HTO : Hid (tOf l = (l ++ [(V : Int)]).map (wgt K)) := by show _ = _; rw [tOf, trL, hV, hK]
      have HVV := Lib.hid hV
      rw [← hS] at s1 s3 s7 ⊢
      rw [← hK] at s2 s3 s4 s7
      rw [← hR] at s5 s6 s7
      rw [← hV] at s8 s9
      have HREST : Hid (wrap64 (wrap64 ((2 : Int) ^ K) - (S : Int)) = (R : Int)) := by
        show _ = _
        rw [(pow_k (show K ≤ 20 by omega)).1]
        generalize 2 ^ K = P at *
        rw [IntWalk.wrap64_in _ ⟨by omega, by omega⟩]
        omega
      have hS9 : S ≤ 1000000 := by omega
      clear hS hK hR hV eK eV s3 s4 s7 s1
      obtain ⟨U, rfl⟩ : ∃ U, V = U + 1 := ⟨V - 1, by omega⟩
      have hU : U ≤ 19 := by omega
      rw [Nat.add_sub_cancel] at HOK
      have HPW := Lib.hid (pow_k (show U ≤ 20 by omega))
      have wsub : IntKind.i64.wrap (((U : Int) + 1) - 1) = (U : Int) := by rw [IntWalk.i64_in _ (by omega)]; omega
      clear s8 s9
      go_wp2_with fail
      refine (HLS.out _).mono ?_
      rintro e w5 ⟨rfl, rfl⟩
      go_wp2_with fail
      rw [HREST.out, IntWalk.u64_in _ (by omega)]
      refine (HLR.out _).mono ?_
      rintro e w5 ⟨rfl, rfl⟩
      by_cases hS0 : S = 0
      · subst hS0
        have NO : Hid (okW l = false) := by show _ = _; rw [HOK.out]; simp
        clear HREST
        go_wp2_with fail
        refine (wis_no (by simp) 12 _).mono ?_
        rintro e w5 ⟨rfl, rfl⟩
        go_wp2_with fail
        exact ⟨rfl, TreeEnd.no NO.out (Keeps.refl _ _)⟩
      · have hS1 : (0 : Int) < (S : Int) := by omega
        by_cases hK : K ≤ 11
        · have hK1 : (K : Int) ≤ 11 := by omega
          by_cases hR : R = 2 ^ U
          · have HR := Lib.hid hR
            have HK := Lib.hid hK
            clear HREST hR hK s2 s5
            go_wp2_with fail
            refine (wis_yes (by rw [HPW.out.1, HR.out]; simp) 12 _).mono ?_
            rintro e w5 ⟨rfl, rfl⟩
            have hi := Hi.out
            have hL : (l ++ [((U + 1 : Nat) : Int)]).length = k + 1 := by rw [List.length_append, ← HN.out]; rfl
            have HL := Lib.hid hL
            clear hL
            have hold : Hid (∀ W : World, Keeps w W [] → ∀ b', some (⟨b, o, none⟩ : Addr) = some b' → ∀ j u, (l.map (Value.int .i64))[j]? = some u → W.cell? (b'.add j) = some u) := fun W kk b' he => by
              cases he
              exact (HV.out.keeps kk).news
            have HLM : Hid ((l.map (Value.int .i64)).length = k * 1) := by have := HN.out; show _ = _; simp; omega
            go_wp2_with (first | (at_builtin; refine wpList_append_grows _ rfl (.tmp 68) (.tmp 70) 25 rfl 3 i0 (.int .i64 0) 1 8 Tryz.underlying25 hi hz0 hz1 hz2 rfl (by decide) (some ⟨b, o, none⟩) k k (l.map (.int .i64)) rfl (fun h => by cases h) HLM.out (hold.out _ ((Keeps.refl w []).alloc _)) ⟨w.heap.size, 0, none⟩ 1 1 [.int .i64 ((U : Int) + 1)] rfl rfl (cell_one_new _ _ _) (by simp [Value.oneCell']) (by omega) (by unfold maxLen; omega) (by omega) ?_; intro v2 w2 own2 gr2; have g2 : Hid (Keeps _ w2 []) := Keeps.of_grown gr2 (fun k hk => by cases hk); clear gr2; obtain ⟨ad2, c2, rfl⟩ := own_form own2; have OWN := Lib.hid own2; clear own2))
            obtain ⟨g, rfl, hgw⟩ := own_some (by omega) OWN.out
            have heL : l.map (Value.int .i64) ++ [Value.int .i64 ((U : Int) + 1)] = (l ++ [(U : Int) + 1]).map (Value.int .i64) := by simp
            have HTO2 : Hid (tOf l = (l ++ [(U : Int) + 1]).map (wgt K)) := by show _ = _; rw [HTO.out]; push_cast; rfl
            have HOK2 : Hid (okW l = (l ++ [(U : Int) + 1]).contains 1) := by show _ = _; rw [HOK.out, ← HR.out]; push_cast; simp [HK.out]; omega
            have HL2 : Hid ((l ++ [(U : Int) + 1]).length = k + 1) := by have := HL.out; push_cast at this; exact this
            have ROW := Lib.hid (rowI_own HL2.out (heL ▸ OWN.out))
            have HB2 : Hid (∀ x ∈ l ++ [(U : Int) + 1], 0 ≤ x ∧ x ≤ 20) := fun x hx => by
              rcases List.mem_append.1 hx with h | h
              · have := finM_iff.1 (List.all_eq_true.1 hall' x h); omega
              · rw [List.mem_singleton.1 h]; omega
            have kw := Lib.hid (((Keeps.refl w []).alloc (.cells #[.int .i64 ((U : Int) + 1)] 3)).then g2.out)
            simp only [World.size_alloc] at hgw
            have HHAS := Lib.hid (has_call (.slice (some ⟨g, 0, none⟩) (k + 1) c2) _ 1 w2 ROW.out.reads (by have := HL2.out; omega))
            rw [← HOK2.out] at HHAS
            have hcap2 := ROW.out.cap
            have hHV := HVV.out
            generalize l ++ [(U : Int) + 1] = L at *
            clear HOK HOK2 HL HLM hold HTO heL OWN g2
            refine HHAS.out.mono ?_
            rintro e w5 ⟨rfl, rfl⟩
            cases hok : okW l with
            | false =>
              have NO := Lib.hid hok
              clear hok
              go_wp2_with fail
              refine (wis_no rfl 12 _).mono ?_
              rintro e w5 ⟨rfl, rfl⟩
              go_wp2_with fail
              exact ⟨rfl, TreeEnd.no NO.out kw.out⟩
            | true =>
              have YES := Lib.hid hok
              clear hok
              go_wp2_with fail
              refine (wis_yes rfl 12 _).mono ?_
              rintro e w5 ⟨rfl, rfl⟩
              have HST2 : Hid (∀ j x, L[j]? = some x → 0 < x → (trF (wgt K) L j).set j ((K : Int) + 1 - x) = trF (wgt K) L (j + 1)) := fun j x hx h0 => by
                have := trF_set (f := wgt K) hx
                rw [← this, wgt, if_pos h0]
              have HSN2 : Hid (∀ j x, L[j]? = some x → 0 ≤ x → ¬ 0 < x → trF (wgt K) L (j + 1) = trF (wgt K) L j) := fun j x hx h1 h0 => trF_same hx (by rw [wgt, if_neg h0]; omega)
              have HGT : Hid (∀ j x, L[j]? = some x → (trF (wgt K) L j)[j]? = some x) := fun j x hx => trF_get hx
              rw [← trF_all (wgt K) (show L.length ≤ k + 1 by have := HL2.out; omega)] at HTO2
              have ROW0 : Hid (RowI w2 g (k + 1) c2 (trF (wgt K) L 0)) := by rw [trF_zero]; exact ROW.out
              clear ROW
              generalize wgt (K : Int) = F at *
              go_wp2_with fail
              go_loopw [77] (fun i wr => ∃ j : Nat, j ≤ k + 1 ∧ i = .int .i64 j ∧ Hid (RowI wr g (k + 1) c2 (trF F L j)) ∧ Hid (Keeps w wr [])) (fun i _ => k + 1 - (intOf i).toNat)
              case atStart => exact ⟨0, Nat.zero_le _, rfl, ROW0, kw⟩
              case round =>
                clear ROW0 kw
                obtain ⟨j, hj, rfl, ROW, kk⟩ := hrel
                by_cases hjt : j < k + 1
                · obtain ⟨x, hx⟩ : ∃ x, L[j]? = some x := ⟨_, List.getElem?_eq_getElem (by have := HL2.out; omega)⟩
                  have hxb := HB2.out x (List.mem_of_getElem? hx)
                  have hbc := ROW.out.at (HGT.out j x hx)
                  have hbf := ROW.out.frozen j
                  have hst := Lib.hid (HST2.out j x hx)
                  have hsn := Lib.hid (HSN2.out j x hx)
                  have hjk : (j : Int) < (k : Int) + 1 := by omega
                  clear hx
                  by_cases h0 : 0 < x
                  · have NR : Hid (RowI (wr.setCell ⟨g, j, none⟩ (.int .i64 ((K : Int) + 1 - x))) g (k + 1) c2 (trF F L (j + 1))) := by rw [← hst.out h0]; exact ROW.out.set j _
                    have NK : Hid (Keeps w (wr.setCell ⟨g, j, none⟩ (.int .i64 ((K : Int) + 1 - x))) []) := kk.out.setCell (.inl (by dsimp only; omega)) _
                    clear hst hsn
                    go_wp2_with fail
                    go_roundw
                    case rel => exact ⟨j + 1, by omega, by go_num, NR, NK⟩
                    case measure => simp [intOf]; omega
                  · have d0 : decide (0 < x) = false := decide_eq_false h0
                    have NR : Hid (RowI wr g (k + 1) c2 (trF F L (j + 1))) := by rw [hsn.out hxb.1 (by omega)]; exact ROW.out
                    clear hst hsn
                    go_wp2_with fail
                    go_roundw
                    case rel => exact ⟨j + 1, by omega, by go_num, NR, kk⟩
                    case measure => simp [intOf]; omega
                · have hjk : ¬ ((j : Int) < (k : Int) + 1) := by omega
                  obtain rfl : j = k + 1 := by omega
                  have HRES : Hid (RdI .i64 wr (.slice (some ⟨g, 0, none⟩) (k + 1) c2) (tOf l)) := by rw [HTO2.out]; exact ROW.out.reads
                  clear ROW
                  go_wp2_with fail
                  go_ret2
                  exact ⟨kk.out, fun _ => ⟨_, by rw [← hHV]; push_cast; rfl, HRES.out, fun ad n c he => by cases he; dsimp only; omega⟩, fun h => by rw [YES.out] at h; cases h⟩
          · have NO : Hid (okW l = false) := by show _ = _; rw [HOK.out]; simp [hR]
            have HR := Lib.hid hR
            clear HREST hR hK s2 s5
            go_wp2_with fail
            refine (wis_no (by rw [HPW.out.1, beq_eq_false_iff_ne]; intro h; injection h with h; exact HR.out (by exact_mod_cast h)) 12 _).mono ?_
            rintro e w5 ⟨rfl, rfl⟩
            go_wp2_with fail
            exact ⟨rfl, TreeEnd.no NO.out (Keeps.refl _ _)⟩
        · have NO : Hid (okW l = false) := by show _ = _; rw [HOK.out]; simp [hK]
          have dK : decide ((K : Int) ≤ 11) = false := decide_eq_false (by omega)
          clear HREST
          go_wp2_with fail
          refine (wis_no (by simp [*]) 12 _).mono ?_
          rintro e w5 ⟨rfl, rfl⟩
          go_wp2_with fail
          exact ⟨rfl, TreeEnd.no NO.out (Keeps.refl _ _)⟩


end Go.Proofs.YtcmagccfagijlaaGreat
