/-
  Walks over the reference of spread tables: Of.
-/
import Derived.Test.YtcmagccfagijlaaGreatQ18
namespace Go.Proofs.YtcmagccfagijlaaGreat
set_option linter.unusedVariables false
set_option linter.unusedSimpArgs false
set_option linter.unusedSectionVars false
open Go.RowKit

set_option maxRecDepth 100000 in
set_option maxHeartbeats 2000000 in
theorem rsof_bad (g : Int) (nv : Value) (norm : List Int) (w : World) (hv : RdI .i64 w nv norm) (hn : norm.length ≤ 1000000) (hok : okN g norm 256 9 = false) :
    Calls Tryz.prog 196 #[.agg #[.int .i64 g, nv]] w fun e w' => e = .returned (.tuple #[.slice none 0 0, .int .i64 13]) ∧ Keeps w w' [] := by
  obtain ⟨A0, m, cp0, rfl, hnl, -⟩ := hv.form
  have k0 := (Keeps.refl w []).alloc (.cells #[.int .i64 g, .slice A0 m cp0] 27)
  have b0 := Blk.new w #[.int .i64 g, .slice A0 m cp0] 27
  have HM := Lib.hid (rmay_any g 256 9 _ norm _ (hv.keeps k0) hn (by omega))
  rw [hok] at HM
  clear hv hnl hn hok
  go_enter Tryz.func196, Tryz.ntmps196
  go_wp2_with (go_at_call 46; refine HM.out.mono ?_; rintro e w1 ⟨rfl, k1⟩; simp only [Bool.false_eq_true, if_false])
  go_ret2
  exact ⟨rfl, k0.then k1⟩

theorem pow_int2 (b : Nat) : ((2 : Int) ^ ((b : Int).toNat)) = ((2 ^ b : Nat) : Int) := by simp
theorem make_row (w : World) {n : Nat} (h : n ≤ 1000000) : RowI (w.alloc (.cells (ints (List.replicate n 0)) 3)) w.heap.size n n (List.replicate n 0) :=
  ⟨by simp, by simp, .inr ⟨w.heap.size, n, _, rfl, Nat.zero_le _, heap_alloc_new w _, Nat.le_refl _, by unfold maxLen; omega, by simp [ints], by simp [ints]⟩⟩

theorem others_lt {norm : List Int} {i k m : Nat} {x : Int} (hx : norm[i]? = some x) (hk : k < x.toNat) (hm : i < m) : (othersK norm i).length + k < (othersK norm m).length := by
  induction m with
  | zero => omega
  | succ m ih2 =>
    have e : othersK norm (m + 1) = othersK norm m ++ List.replicate (norm.getD m 0).toNat m := by
      simp only [othersK, List.range_succ, List.flatMap_append, List.flatMap_cons, List.flatMap_nil, List.append_nil]
    rw [e, List.length_append, List.length_replicate]
    by_cases h2 : i < m
    · have := ih2 h2
      omega
    · obtain rfl : i = m := by omega
      rw [getD_some hx]
      omega

/-- Which visit a place belongs to. -/
def visitI (S : Nat) (v : Value) : Nat := ((List.range S).map (visitN S)).idxOf (intOf v).toNat
theorem visitI_eq {g v : Nat} (hg : g ≤ 9) (hv : v < 2 ^ g) : visitI (2 ^ g) (.int .i64 ((visitN (2 ^ g) v : Nat) : Int)) = v := by
  unfold visitI
  have h := (visit_nodup hg).idxOf_getElem v (by simpa using hv)
  simp only [List.getElem_map, List.getElem_range] at h
  simpa [intOf] using h

set_option maxRecDepth 100000 in
set_option maxHeartbeats 4000000 in
theorem rsof_ok (G : Nat) (nv : Value) (norm : List Int) (w : World) (hv : RdI .i64 w nv norm) (hok : okN (G : Int) norm 256 9 = true) (ht : TblOk G norm) :
    Calls Tryz.prog 196 #[.agg #[.int .i64 (G : Int), nv]] w fun e w' => ∃ o c, e = .returned (.tuple #[.slice (some ⟨o, 0, none⟩) (2 ^ G) c, .int .i64 0]) ∧ w.heap.size ≤ o ∧ RowI w' o (2 ^ G) c (castL (placesL G norm)) ∧ Keeps w w' [] := by
  obtain ⟨A0, m, cp0, rfl, hnl, -⟩ := hv.form
  have k0 := (Keeps.refl w []).alloc (.cells #[.int .i64 (G : Int), .slice A0 m cp0] 27)
  have b0 := Blk.new w #[.int .i64 (G : Int), .slice A0 m cp0] 27
  have HM := Lib.hid (rmay_any (G : Int) 256 9 _ norm _ (hv.keeps k0) (by have := ht.len; omega) (by omega))
  rw [hok, if_pos rfl] at HM
  have HS := Lib.hid (fun W => rsize_any (G : Int) W (by omega) (by have := ht.g9; omega))
  rw [pow_int2] at HS
  obtain ⟨hs1, hs2⟩ := ht.size
  have HT := Lib.hid ht
  have HV := Lib.hid hv
  have HNL := Lib.hid hnl
  have hm256 : m ≤ 256 := by have := ht.len; omega
  obtain ⟨S, hS⟩ : ∃ S, 2 ^ G = S := ⟨_, rfl⟩
  rw [hS] at HS hs1 hs2 ⊢
  have HSG := Lib.hid hS
  clear hv hnl hok ht hS
  go_enter Tryz.func196, Tryz.ntmps196
  go_wp2_with (first
    | (go_at_call 46; refine HM.out.mono ?_; rintro e w1 ⟨rfl, k1⟩; have b1 := b0.keeps k1 (by simp); have c0 := b1.cell 0; have c1 := b1.cell 1; simp at c0 c1; have B1 := Lib.hid b1; have KK1 := Lib.hid (k0.then k1); clear b1)
    | (go_at_call 77; refine (HS.out _).mono ?_; rintro e w9 ⟨rfl, rfl⟩; have hmk := make_ints S (by omega) w1))
  have K1 := Lib.hid ((Keeps.refl w1 []).alloc (.cells (ints (List.replicate S 0)) 3))
  have R1 := Lib.hid (make_row w1 (n := S) (by omega))
  have hs := KK1.out.size
  have hT1 := B1.out.lt
  obtain ⟨o, ho⟩ : ∃ o, w1.heap.size = o := ⟨_, rfl⟩
  rw [ho] at R1 hs hT1 ⊢
  clear c0 c1 hmk
  obtain ⟨w2, hw2⟩ : ∃ w2, w1.alloc (.cells (ints (List.replicate S 0)) 3) = w2 := ⟨_, rfl⟩
  rw [hw2] at K1 R1 ⊢
  have B2 := Lib.hid (B1.out.keeps K1.out (by simp))
  have KK2 := Lib.hid (KK1.out.then K1.out)
  have HO := Lib.hid ho
  clear hw2 B1 KK1 K1 ho
  go_loopw [7] (fun s7 wr => ∃ k : Nat, k ≤ S ∧ s7 = .int .i64 (k : Int) ∧ RowI wr o S S (List.replicate k (-1) ++ List.replicate (S - k) 0) ∧ Keeps w wr [] ∧ Blk wr w.heap.size #[.int .i64 (G : Int), .slice A0 m cp0] 27) (fun s7 _ => S - (intOf s7).toNat)
  case atStart => exact ⟨0, by omega, rfl, by simpa using R1.out, KK2.out, B2.out⟩
  case round =>
    clear R1 B2 KK2
    obtain ⟨k, hk, rfl, row, kk, bt⟩ := hrel
    have ROW := Lib.hid row
    have BT := Lib.hid bt
    have KK := Lib.hid kk
    clear row bt kk
    by_cases hlt : k < S
    · have hlt2 : (k : Int) < (S : Int) := by omega
      have f0 := ROW.out.frozen k
      obtain ⟨x, hx⟩ : ∃ x, (List.replicate k (-1 : Int) ++ List.replicate (S - k) 0)[k]? = some x := ⟨_, List.getElem?_eq_getElem (by simp; omega)⟩
      have c0 := ROW.out.at hx
      clear hx
      go_wp2_with fail
      have row2 := ROW.out.set k (-1)
      rw [show S - k = (S - (k + 1)) + 1 by omega, neg_set] at row2
      go_roundw
      case rel => exact ⟨k + 1, by omega, by simp, row2, KK.out.setCell (.inl (by dsimp only; omega)) _, BT.out.setOther (by dsimp only; omega) _⟩
      case measure => simp only [intOf]; omega
    · obtain rfl : k = S := by omega
      have row2 := ROW.out
      rw [Nat.sub_self, List.replicate_zero, List.append_nil, ← outL_none, ← hasA_nil k] at row2
      have ROW2 := Lib.hid row2
      have hll : ¬ (k : Int) < (k : Int) := by omega
      clear row2 ROW
      go_wp2_with fail
      have HPT := Lib.hid (fun i (hi : i ≤ norm.length) => by have := HT.out.part hi; rw [HSG.out] at this; exact this)
      go_loopw [8, 9] (fun s8 s9 wr => ∃ (i : Nat) (T8 : Int), i ≤ m ∧ s9 = .int .i64 (i : Int) ∧ s8 = .int .i64 T8 ∧ Hid (T8 = (k : Int) - 1 - ((lowsK norm i).length : Int)) ∧ -1 ≤ T8 ∧ T8 < (k : Int) ∧ RowI wr o k k (outL k (hasA k (lowsK norm i))) ∧ Keeps w wr [] ∧ Blk wr w.heap.size #[.int .i64 (G : Int), .slice A0 m cp0] 27) (fun _ s9 _ => m - (intOf s9).toNat)
      case atStart => exact ⟨0, (k : Int) - 1, by omega, rfl, (by first | rfl | (congr 1; omega)), Lib.hid (by simp [lowsK]), by omega, by omega, ROW2.out, KK.out, BT.out⟩
      case round =>
        clear ROW2 KK BT
        obtain ⟨i, T8, hi, rfl, rfl, hT8, hT8a, hT8b, row, kk, bt⟩ := hrel
        have ROW := Lib.hid row
        have BT := Lib.hid bt
        have KK := Lib.hid kk
        have c1 := bt.cell 1
        simp at c1
        by_cases hlt : i < m
        · obtain ⟨x, hx⟩ : ∃ x, norm[i]? = some x := ⟨_, List.getElem?_eq_getElem (by have := HNL.out; omega)⟩
          obtain ⟨bk, oo, rfl, hbk, cx⟩ := (HV.out.keeps kk).at hx
          have hcap := HV.out.cap
          have hlt2 : (i : Int) < (m : Int) := by omega
          clear row bt kk
          by_cases hx1 : x = -1
          · have hp := HPT.out (i + 1) (by have := HNL.out; omega)
            have hl := lowsK_yes (hx1 ▸ hx)
            rw [hl, List.length_append, List.length_singleton] at hp
            have hxb : (x == -1) = true := by simpa using hx1
            obtain ⟨t, ht⟩ : ∃ t : Nat, T8 = (t : Int) := ⟨T8.toNat, by have := hT8.out; omega⟩
            have htk : t < k := by omega
            subst ht
            have HST : Hid ((outL k (hasA k (lowsK norm i))).set t (i : Int) = outL k (hasA k (lowsK norm (i + 1)))) := Lib.hid (by
              rw [outL_set htk, hl, hasA_snoc (by omega), ← hT8.out])
            have HT2 : Hid ((t : Int) - 1 = (k : Int) - 1 - ((lowsK norm (i + 1)).length : Int)) := Lib.hid (by rw [hl, List.length_append, List.length_singleton, hT8.out]; omega)
            obtain ⟨y, hy⟩ : ∃ y, (outL k (hasA k (lowsK norm i)))[t]? = some y := ⟨_, List.getElem?_eq_getElem (by rw [outL_len]; exact htk)⟩
            have c5 := ROW.out.at hy
            have f5 := ROW.out.frozen t
            have ht2 : (t : Int) < (k : Int) := by omega
            clear hx hl hp hy hx1
            go_wp2_with fail
            have row2 := ROW.out.set t (i : Int)
            rw [HST.out] at row2
            go_roundw
            case rel => exact ⟨i + 1, (t : Int) - 1, by omega, by simp, by simp, HT2, by omega, by omega, row2, KK.out.setCell (.inl (by dsimp only; omega)) _, BT.out.setOther (by dsimp only; omega) _⟩
            case measure => simp only [intOf]; omega
          · have hl := lowsK_no hx hx1
            have hxb : (x == -1) = false := by simpa using hx1
            have HL := Lib.hid hl
            clear hx hl hx1
            go_wp2_with fail
            go_roundw
            case rel => exact ⟨i + 1, T8, by omega, by simp, rfl, by rw [HL.out]; exact hT8, by omega, by omega, by rw [HL.out]; exact ROW.out, KK.out, BT.out⟩
            case measure => simp only [intOf]; omega
        · obtain rfl : m = i := by omega
          have hii : ¬ (m : Int) < (m : Int) := by omega
          have hLOW := HNL.out
          obtain ⟨lows, hlo⟩ : ∃ l, lowsK norm m = l := ⟨_, rfl⟩
          obtain ⟨others, hot⟩ : ∃ l, othersL norm = l := ⟨_, rfl⟩
          have hlens := HT.out.lens
          rw [← lowsK_all, ← HNL.out, hlo, hot, HSG.out] at hlens
          rw [hlo] at row
          rw [← hasB_nil k lows others] at row
          have ROWB := Lib.hid row
          have HOT := Lib.hid (fun (i q : Nat) (x : Int) (hx : norm[i]? = some x) (hq : q < x.toNat) => by
            have := others_at (m := m) hx hq (by have := (List.getElem?_eq_some_iff.1 hx).1; omega)
            rw [HNL.out, othersK_all, hot] at this
            exact this)
          have HLEN := Lib.hid hlens
          have HOTL := Lib.hid hot
          have HLOW := Lib.hid hlo
          clear row bt kk ROW hlo hot hlens hLOW hT8
          have HOL2 := Lib.hid (fun (i q : Nat) (x : Int) (hx : norm[i]? = some x) (hq : q < x.toNat) => by
            have := others_lt (m := m) hx hq (by have := (List.getElem?_eq_some_iff.1 hx).1; have := HNL.out; omega)
            rw [HNL.out, othersK_all, HOTL.out] at this
            exact this)
          have hvis0 : Hid (visitN k 0 = 0) := Lib.hid (by simp [visitN])
          go_wp2_with fail
          clear c1
          go_loopw [10, 11] (fun s10 s11 wr => ∃ (i v : Nat) (fr : List Nat), i ≤ m ∧ v < k ∧ s10 = .int .i64 ((visitN k v : Nat) : Int) ∧ s11 = .int .i64 (i : Int) ∧ Hid (fr.length = (othersK norm i).length) ∧ Hid (fr = freeN k (k - lows.length) v ∨ fr = freeN k (k - lows.length) (v + 1)) ∧
              RowI wr o k k (outL k (hasB k lows others fr)) ∧ Keeps w wr [] ∧ Blk wr w.heap.size #[.int .i64 (G : Int), .slice A0 m cp0] 27) (fun _ s11 _ => m - (intOf s11).toNat)
          case atStart => exact ⟨0, 0, [], by omega, by omega, by rw [hvis0.out]; rfl, rfl, Lib.hid rfl, Lib.hid (.inl rfl), ROWB.out, KK.out, BT.out⟩
          case round =>
            clear ROWB KK BT
            obtain ⟨i, v, fr, hi, hvk, rfl, rfl, hfl, hfr, row, kk, bt⟩ := hrel
            have ROW := Lib.hid row
            have BT := Lib.hid bt
            have KK := Lib.hid kk
            have c1 := bt.cell 1
            simp at c1
            clear row bt kk
            by_cases hlt : i < m
            · obtain ⟨x, hx⟩ : ∃ x, norm[i]? = some x := ⟨_, List.getElem?_eq_getElem (by have := HNL.out; omega)⟩
              obtain ⟨bk, oo, rfl, hbk, -⟩ := HV.out.at hx
              have HCX := Lib.hid (fun W (kk : Keeps w W []) => (HV.out.keeps kk).at hx)
              have HQ := Lib.hid (fun q hq => HOT.out i q x hx hq)
              have HQ2 := Lib.hid (fun q hq => HOL2.out i q x hx hq)
              have HNX : Hid ((othersK norm (i + 1)).length = (othersK norm i).length + x.toNat) := Lib.hid (by rw [othersK_next hx, List.length_append, List.length_replicate])
              have hcap := HV.out.cap
              have hlt2 : (i : Int) < (m : Int) := by omega
              have hx5 : x ≤ 512 := (HT.out.ent hx).2
              clear hx
              go_wp2_with fail
              go_loopw [10, 12] (fun s10 s12 wr => ∃ (q v : Nat) (fr : List Nat), q ≤ x.toNat ∧ v < k ∧ s10 = .int .i64 ((visitN k v : Nat) : Int) ∧ s12 = .int .i64 (q : Int) ∧ Hid (fr.length = (othersK norm i).length + q) ∧ Hid (fr = freeN k (k - lows.length) v ∨ fr = freeN k (k - lows.length) (v + 1)) ∧
                  RowI wr o k k (outL k (hasB k lows others fr)) ∧ Keeps w wr [] ∧ Blk wr w.heap.size #[.int .i64 (G : Int), .slice (some ⟨bk, oo, none⟩) m cp0] 27) (fun _ s12 _ => x.toNat - (intOf s12).toNat)
              case atStart => exact ⟨0, v, fr, by omega, hvk, rfl, rfl, Lib.hid (by rw [hfl.out]; rfl), hfr, ROW.out, KK.out, BT.out⟩
              case round =>
                clear ROW BT KK hfl hfr c1
                obtain ⟨q, v, fr, hq, hvk, rfl, rfl, hfl, hfr, row, kk, bt⟩ := hrel
                obtain ⟨b', o', e', -, cx⟩ := HCX.out wr kk
                cases e'
                obtain ⟨wo, hwo⟩ : ∃ x, x = wr := ⟨_, rfl⟩
                subst hwo
                have ROW := Lib.hid row
                have BT := Lib.hid bt
                have KK := Lib.hid kk
                have c1 := bt.cell 1
                simp at c1
                clear row bt kk
                by_cases hqx : q < x.toNat
                · have hqx2 : (q : Int) < x := by omega
                  have HFT : Hid (fr.length < k - lows.length) := Lib.hid (by have := HQ2.out q hqx; have := HLEN.out; rw [hfl.out]; omega)
                  have HST := Lib.hid (fun W => rstep_any k W hs2)
                  obtain ⟨SP, hSP⟩ : ∃ SP, stepN k = SP := ⟨_, rfl⟩
                  rw [hSP] at HST
                  have hSP2 : SP ≤ 600 := by rw [← hSP]; unfold stepN; split <;> omega
                  have HSP := Lib.hid hSP
                  clear hSP
                  go_wp2_with fail
                  go_loopw [10] (fun s10 wr => wr = wo ∧ ∃ v, v < k ∧ s10 = .int .i64 ((visitN k v : Nat) : Int) ∧ Hid (fr = freeN k (k - lows.length) v ∨ fr = freeN k (k - lows.length) (v + 1))) (fun s10 _ => k - visitI k s10)
                  case atStart => exact ⟨rfl, v, hvk, rfl, hfr⟩
                  case round =>
                    clear hfr hvk
                    obtain ⟨rfl, v, hvk, rfl, hfr⟩ := hrel
                    obtain ⟨p, hp⟩ : ∃ p, visitN k v = p := ⟨_, rfl⟩
                    have hpk : p < k := by rw [← hp]; exact visit_lt (by omega)
                    have hpk2 : (p : Int) < (k : Int) := by omega
                    have c5 := ROW.out.at (outL_get hpk)
                    have f5 := ROW.out.frozen p
                    have HP := Lib.hid hp
                    rw [hp]
                    obtain ⟨Y, hY⟩ : ∃ Y, hasB k lows others fr ((p : Nat) : Int) = Y := ⟨_, rfl⟩
                    rw [hY] at c5
                    cases Y with
                    | some z =>
                      have hz : 0 ≤ z := hasB_pos hY
                      have hzd : decide ((0 : Int) ≤ z) = true := decide_eq_true hz
                      have hfe : fr = freeN k (k - lows.length) (v + 1) := by
                        have h1 := HSG.out
                        subst h1
                        exact vis_fill HT.out.g9 hvk (by have := HLEN.out; omega) hfr.out (by rw [hp, hY]; simp)
                      have hvm : v + 1 < k := by
                        have h1 := HSG.out
                        subst h1
                        exact vis_more HT.out.g9 hvk hfe HFT.out
                      have HFE := Lib.hid hfe
                      have HNXT : Hid (((p : Int) + (SP : Int)) % (k : Int) = ((visitN k (v + 1) : Nat) : Int)) := Lib.hid (by
                        rw [visit_succ, hp, HSP.out]; simp)
                      simp only [Option.getD_some] at c5
                      obtain ⟨D, hD⟩ : ∃ D : Int, (p : Int) + (SP : Int) = D := ⟨_, rfl⟩
                      rw [hD] at HNXT
                      have hDa : 0 ≤ D := by omega
                      have hDb : D ≤ 1200 := by omega
                      have hk0 : ((k : Int) == 0) = false := by simp; omega
                      have hmea : Hid (visitI k (.int .i64 ((visitN k v : Nat) : Int)) = v ∧ visitI k (.int .i64 ((visitN k (v + 1) : Nat) : Int)) = v + 1) := Lib.hid (by
                        have h1 := HSG.out
                        subst h1
                        exact ⟨visitI_eq HT.out.g9 hvk, visitI_eq HT.out.g9 hvm⟩)
                      clear hp hY hfe
                      go_wp2_with (go_at_call 215; refine (HST.out _).mono ?_; rintro e w9 ⟨rfl, rfl⟩)
                      go_roundw
                      case rel => exact ⟨trivial, v + 1, hvm, by rw [HNXT.out], Lib.hid (.inl HFE.out)⟩
                      case measure =>
                        rw [HNXT.out, ← HP.out, hmea.out.1, hmea.out.2]
                        omega
                    | none =>
                      obtain ⟨y, hy⟩ : ∃ y : Int, (Option.getD none (-1 : Int)) = y := ⟨_, rfl⟩
                      rw [hy] at c5
                      have hyn : y = -1 := hy.symm
                      have hyd : decide ((0 : Int) ≤ y) = false := decide_eq_false (by omega)
                      have hyd2 : ¬ (0 : Int) ≤ y := by omega
                      have hfe : freeN k (k - lows.length) (v + 1) = fr ++ [p] ∧ p ∉ fr := by
                        have h1 := HSG.out
                        subst h1
                        have := vis_free HT.out.g9 hvk (by have := HLEN.out; omega) hfr.out (by rw [hp]; exact hY)
                        rw [hp] at this
                        exact this
                      have HFE := Lib.hid hfe
                      have HSET : Hid ((outL k (hasB k lows others fr)).set p (i : Int) = outL k (hasB k lows others (fr ++ [p]))) := Lib.hid (by
                        rw [outL_set hpk, hasB_snoc hfe.2, hfl.out, HQ.out q hqx])
                      clear hp hY hfe hy hyn
                      go_wp2_with fail
                      have row2 := ROW.out.set p (i : Int)
                      rw [HSET.out] at row2
                      go_roundw
                      case rel => exact ⟨q + 1, v, fr ++ [p], by omega, hvk, by rw [HP.out], by simp, Lib.hid (by rw [List.length_append, hfl.out, List.length_singleton]; omega), Lib.hid (.inr HFE.out.1.symm), row2, KK.out.setCell (.inl (by dsimp only; omega)) _, BT.out.setOther (by dsimp only; omega) _⟩
                      case measure => simp only [intOf]; omega
                · have hqx2 : ¬ (q : Int) < x := by omega
                  have HFE : Hid (fr.length = (othersK norm (i + 1)).length) := Lib.hid (by rw [HNX.out, hfl.out]; omega)
                  go_wp2_with fail
                  go_roundw
                  case rel => exact ⟨i + 1, v, fr, by omega, hvk, rfl, by simp, HFE, hfr, ROW.out, KK.out, BT.out⟩
                  case measure => simp only [intOf]; omega
            · obtain rfl : m = i := by omega
              have hii : ¬ (m : Int) < (m : Int) := by omega
              go_wp2_with fail
              go_ret2
              have hl0 : lows.length ≤ k := by have := HLEN.out; omega
              have hfe : fr = freeN k (k - lows.length) k := by
                have h1 := HSG.out
                subst h1
                exact vis_end HT.out.g9 hvk hfr.out (by rw [hfl.out, HNL.out, othersK_all, HOTL.out]; have := HLEN.out; omega)
              have row2 := ROW.out
              have hrow : outL k (hasB k lows others fr) = castL (placesL G norm) := by
                have h1 := HSG.out
                subst h1
                rw [hfe, ← HLOW.out, ← HOTL.out, HNL.out, lowsK_all]
                exact out_end HT.out.g9 (by rw [← lowsK_all, ← HNL.out, HLOW.out]; exact hl0)
              rw [hrow] at row2
              exact ⟨o, k, rfl, by omega, row2, KK.out⟩


end Go.Proofs.YtcmagccfagijlaaGreat
