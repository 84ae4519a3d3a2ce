/-
  Walks over the references of package limit: Free.
-/
import Derived.Test.YthjbngnihcmedaaKR
import Derived.Test.YthjbngnihcmedaaO5
import Derived.Test.YthjbngnihcmedaaAq
namespace Go.Proofs.Ythjbngnihcmedaa
set_option linter.unusedVariables false
set_option linter.unusedSimpArgs false
set_option linter.unusedSectionVars false
open Go.RowKit

/-- x[:m] of a slice of numbers. -/
theorem slice_preI {P : Program} {t e : TypeId} (ht : P.underlying t = some (.slice e)) {i0 : TypeInfo} (hi : P.info? e = some i0) (h1 : i0.size = 1) {k : IntKind} {w : World} {a : Option Addr} {n c m : Nat} {l : List Int} (h : RdI k w (.slice a n c) l) (hm : m ≤ n) :
    ∃ a' c', (∀ w', (Instr.slice t (.slice a n c) none (some (.int .i64 m)) none).run P w' = .ok (.slice a' m c') w') ∧ RdI k w (.slice a' m c') (l.take m) := by
  have hcap := h.cap
  have hlen := h.len
  have hmc : m ≤ c := by omega
  have e0 : a.map (·.add 0) = a := by cases a <;> simp [Addr.add]
  refine ⟨a, c, fun w' => ?_, ?_⟩
  · simp [Instr.slice, Instr.sliceBounds, Instr.sliceBound, asIntOf, run_underlying ht, go_sem, sizeOf, typeInfo, hi, h1, hmc, e0]
  · obtain ⟨a', n', c', he, q1, q2, hc⟩ := h.form
    cases he
    refine ⟨a, m, c, rfl, by simp; omega, (fun h => by have := q2 h; omega), fun h0 => ?_⟩
    obtain ⟨q3, b, o, e, hb, h4⟩ := hc (by omega)
    exact ⟨hmc, b, o, e, hb, fun i x hx => h4 i x (by
      rw [List.getElem?_take] at hx
      split at hx
      · exact hx
      · cases hx)⟩
/-- x[m:] of a slice of numbers. -/
theorem slice_postI {P : Program} {t e : TypeId} (ht : P.underlying t = some (.slice e)) {i0 : TypeInfo} (hi : P.info? e = some i0) (h1 : i0.size = 1) {k : IntKind} {w : World} {a : Option Addr} {n c m : Nat} {l : List Int} (h : RdI k w (.slice a n c) l) (hm : m ≤ n) :
    ∃ a' c', (∀ w', (Instr.slice t (.slice a n c) (some (.int .i64 m)) none none).run P w' = .ok (.slice a' (n - m) c') w') ∧ RdI k w (.slice a' (n - m) c') (l.drop m) := by
  have hcap := h.cap
  have hlen := h.len
  refine ⟨if c = m then a else a.map (·.add m), c - m, fun w' => ?_, ?_⟩
  · by_cases hcm : c = m
    · simp [Instr.slice, Instr.sliceBounds, Instr.sliceBound, asIntOf, run_underlying ht, go_sem, sizeOf, typeInfo, hi, h1, hm, hcap, hcm]
    · simp [Instr.slice, Instr.sliceBounds, Instr.sliceBound, asIntOf, run_underlying ht, go_sem, sizeOf, typeInfo, hi, h1, hm, hcap, hcm]
  · obtain ⟨a', n', c', he, q1, q2, hc⟩ := h.form
    cases he
    refine ⟨_, n - m, c - m, rfl, by simp; omega, (fun h => ?_), fun h0 => ?_⟩
    · split at h
      · have := q2 h; omega
      · cases a with
        | none => have := q2 rfl; omega
        | some ad => cases h
    · obtain ⟨q3, b, o, e, hb, h4⟩ := hc (by omega)
      subst e
      refine ⟨by omega, b, o + m, ?_, hb, fun i x hx => ?_⟩
      · rw [if_neg (by omega)]; simp [Addr.add]
      · rw [List.getElem?_drop] at hx
        have := h4 (m + i) x hx
        rw [show o + m + i = o + (m + i) by omega]
        exact this

theorem insW_at {x : Int} : ∀ {r : List Int} {k : Nat}, (∀ j y, j < k → r[j]? = some y → y < x) → k ≤ r.length → (∀ y, r[k]? = some y → x ≤ y) → insW x r = r.take k ++ x :: r.drop k
  | [], k, _, hk, _ => by simp at hk; subst hk; rfl
  | y :: r, 0, _, _, h => by
    have := h y (by simp)
    rw [insW, if_neg (by omega)]; rfl
  | y :: r, k + 1, h, hk, h2 => by
    have h0 := h 0 y (by omega) (by simp)
    rw [insW, if_pos h0, insW_at (k := k) (fun j z hj hz => h (j + 1) z (by omega) (by simpa using hz)) (by simpa using hk) (fun z hz => h2 z (by simpa using hz))]
    rfl
theorem grown_lowI {W w w' : World} {v : Value} {n size base : Nat} {e : TypeId} {xs : List Value} (hown : w.ownsRow base e size v n xs) (hg : w.grownBy w' v.ownBlock) (kW : Keeps W w []) (hb : W.heap.size ≤ base) : Keeps W w' [] ∧ Keeps w w' v.ownBlock.toList := by
  have k := Keeps.of_grown (S := v.ownBlock.toList) hg (fun j hj => by simpa using hj)
  exact ⟨kW.trans k (fun x hx hlt => by have := (hown.lt x (by simpa using hx)).1; omega), k⟩

def RefFree (w : World) (c E : Int) (e : Ending) (w' : World) : Prop := e = .returned (.tuple #[.int .i64 c, .int .i64 E]) ∧ Keeps w w' []
def freeCost (l : List Int) : Int := refH (usedL l).length ((sortU l).map (keyC l))

/-- What Huffman's loop keeps. -/
structure FreeSt (T C : Int) (W : List Int) : Prop where
  sum : C + refH W.length W = T
  non : ∀ x ∈ W, 0 ≤ x
  all : sumI W ≤ 549755813888
  few : W.length ≤ 256
  lo : 0 ≤ C
  hi : C + (W.length : Int) * 549755813888 ≤ 257 * 549755813888
theorem sumI_nonneg : ∀ {W : List Int}, (∀ x ∈ W, 0 ≤ x) → 0 ≤ sumI W
  | [], _ => by simp [sumI]
  | x :: W, h => by
    have := sumI_nonneg (W := W) (fun y hy => h y (by simp [hy]))
    have := h x (by simp)
    simp only [sumI]; omega
theorem FreeSt.two {T C a b : Int} {r : List Int} (h : FreeSt T C (a :: b :: r)) : 0 ≤ a ∧ 0 ≤ b ∧ a + b ≤ 549755813888 ∧ 0 ≤ C ∧ C ≤ 257 * 549755813888 ∧ r.length ≤ 254 := by
  have h1 := h.non a (by simp)
  have h2 := h.non b (by simp)
  have h3 := h.all
  have h4 := sumI_nonneg (W := r) (fun y hy => h.non y (by simp [hy]))
  have h5 := h.hi
  have h6 := h.few
  have h7 := h.lo
  simp only [sumI, List.length_cons] at h3 h5 h6
  push_cast at h5
  refine ⟨h1, h2, by omega, h7, by omega, by omega⟩
theorem FreeSt.step {T C a b : Int} {r : List Int} (h : FreeSt T C (a :: b :: r)) : FreeSt T (C + (a + b)) (insW (a + b) r) := by
  have h3 := h.all
  have h5 := h.hi
  have h6 := h.few
  have h7 := h.lo
  have h8 := h.sum
  obtain ⟨t1, t2, t3, -, -, -⟩ := h.two
  have hl := insW_len (a + b) r
  simp only [sumI, List.length_cons] at h3 h5 h6 h8
  refine ⟨?_, ?_, ?_, ?_, by omega, ?_⟩
  · rw [hl]
    have e : refH (r.length + 1 + 1) (a :: b :: r) = (a + b) + refH (r.length + 1) (insW (a + b) r) := rfl
    rw [e] at h8
    omega
  · intro x hx
    rcases List.mem_cons.1 ((insW_perm (a + b) r).mem_iff.1 hx) with rfl | hx
    · omega
    · exact h.non x (by simp [hx])
  · rw [sumI_perm (insW_perm (a + b) r)]
    simp only [sumI]; omega
  · omega
  · rw [hl]; push_cast at h5 ⊢; omega
theorem FreeSt.one {T C : Int} {W : List Int} (h : FreeSt T C W) (hW : W.length ≤ 1) : C = T := by
  have h1 := h.sum
  have e : refH W.length W = 0 := by
    match W, hW with
    | [], _ => rfl
    | [a], _ => rfl
  rw [e] at h1
  omega
theorem free_start {l : List Int} (hr : rightL l = true) : FreeSt (freeCost l) 0 ((sortU l).map (keyC l)) := by
  have hB := hufB_first hr
  have hl : (sortU l).length ≤ 256 := by rw [sortU_len]; have := usedL_len l; have := (rightL_iff.1 hr).1; omega
  refine ⟨?_, ?_, ?_, by simpa using hl, by omega, ?_⟩
  · rw [List.length_map, sortU_len]; unfold freeCost; omega
  · intro x hx
    obtain ⟨s, hs, rfl⟩ := List.mem_map.1 hx
    obtain ⟨j, rfl, y, hy, h0⟩ := sortU_mem hs
    rw [keyC_at hy]; omega
  · have e : ∀ P : PackL, sumI (P.map Prod.fst) = sumW P := by
      intro P
      induction P with
      | nil => rfl
      | cons p P ih => rw [List.map_cons, sumI, sumW, ih]
    rw [← firstP_fst, e]
    exact hB.w
  · simp only [List.length_map]; omega

set_option maxHeartbeats 1000000 in
theorem r_free_bad (v : Value) (l : List Int) (w : World) (hv : RdI .i64 w v l) (hn : l.length ≤ 1000000) (hE : rightL l = false ∨ rightL l = true ∧ (usedL l).length < 2) :
    Calls Try.prog 23 #[v] w (RefFree w 0 (freeErr l)) := by
  have R1 := Lib.hid (r_right v l w hv hn)
  have R2 := Lib.hid (r_used v l w hv hn)
  obtain ⟨A0, n, cp0, rfl, hnl, -⟩ := hv.form
  clear hv hnl
  rcases hE with h | ⟨h, h2⟩
  · have e : freeErr l = 2 := by simp [freeErr, h]
    rw [e]
    rw [h] at R1
    clear h e R2
    go_enter Try.func23, Try.ntmps23
    go_wp2_with (first | (go_at_call 11; refine R1.out.mono ?_; rintro e w' ⟨rfl, hw⟩; subst w'))
    go_ret2
    exact ⟨rfl, Keeps.refl _ _⟩
  · have e : freeErr l = 22 := by rw [freeErr, h, if_pos rfl, if_neg (by omega)]
    rw [e]
    rw [h] at R1
    clear h e
    generalize (usedL l).length = U at *
    have hU : (U : Int) < 2 := by omega
    go_enter Try.func23, Try.ntmps23
    go_wp2_with (first | (go_at_call 11; refine R1.out.mono ?_; rintro e w' ⟨rfl, hw⟩; subst w') | (go_at_call 12; refine R2.out.mono ?_; rintro e w' ⟨rfl, hw⟩; subst w'))
    go_ret2
    exact ⟨rfl, Keeps.refl _ _⟩

set_option maxRecDepth 100000 in
set_option maxHeartbeats 8000000 in
theorem r_free_fine (v : Value) (l : List Int) (w : World) (hv : RdI .i64 w v l) (hr : rightL l = true) (hu : 2 ≤ (usedL l).length) :
    Calls Try.prog 23 #[v] w (RefFree w (freeCost l) 0) := by
  have hl256 := (rightL_iff.1 hr).1
  have R1 := Lib.hid (r_right v l w hv (by omega))
  have R2 := Lib.hid (r_used v l w hv (by omega))
  have R3 := Lib.hid (rising_any v l w hv (by omega))
  have F0 := Lib.hid (free_start hr)
  rw [hr] at R1
  obtain ⟨A0, n, cp0, rfl, hnl, -⟩ := hv.form
  obtain ⟨i0, hi, hz0, hz1, hz2⟩ := info_parts Try.infoInt
  have HR := Lib.hid hr
  have hU : decide (((usedL l).length : Int) < 2) = false := decide_eq_false (by omega)
  obtain ⟨T, hT⟩ : ∃ T, T = freeCost l := ⟨_, rfl⟩
  rw [← hT] at F0 ⊢
  clear hv hnl hr hu hT
  generalize (usedL l).length = U at *
  go_enter Try.func23, Try.ntmps23
  go_wp2_with (first | (go_at_call 11; refine R1.out.mono ?_; rintro e w' ⟨rfl, hw⟩; subst w') | (go_at_call 12; refine R2.out.mono ?_; rintro e w' ⟨rfl, hw⟩; subst w'))
  refine R3.out.mono ?_
  rintro e w1 ⟨v1, Z, rfl, rp, hZ, -, k1⟩
  have hZs : Z = sortU l := by
    unfold Rising at hZ
    rw [HR.out, if_pos rfl] at hZ
    exact sortU_uniq hZ.1 hZ.2
  subst hZs
  obtain ⟨a1, n1, c1, rfl, hn1, -⟩ := rp.form
  have hn1' : n1 = (sortU l).length := by rw [hn1]; simp [pairsC]
  have hn256 : n1 ≤ 256 := by have := F0.out.few; simp at this; omega
  have RP := Lib.hid rp
  have HN1 := Lib.hid hn1'
  clear R1 R2 R3 rp hn1 hn1' hZ hU
  obtain ⟨W0, hW0⟩ : ∃ W0, W0 = (sortU l).map (keyC l) := ⟨_, rfl⟩
  have HW0 := Lib.hid hW0
  have HWL : Hid (W0.length = n1) := by show _ = _; rw [hW0, HN1.out]; simp
  rw [← hW0] at F0
  clear hW0
  go_wp2_with fail
  go_loopw [4, 6] (fun s4 s6 wr => ∃ i : Nat, i ≤ n1 ∧ s6 = .int .i64 i ∧ wr.ownsRow w1.heap.size 3 1 s4 (W0.take i).length ((W0.take i).map (Value.int .i64)) ∧ Keeps w1 wr []) (fun _ s6 _ => n1 - (intOf s6).toNat)
  case atStart => exact ⟨0, Nat.zero_le _, rfl, World.ownsRow_nil _ _ _ _, Keeps.refl _ _⟩
  case round =>
    obtain ⟨i, hin, rfl, hown, kk⟩ := hrel
    have hli : (W0.take i).length = i := by have := HWL.out; simp; omega
    by_cases hlt : i < n1
    · obtain ⟨s, hs⟩ : ∃ s, (sortU l)[i]? = some s := ⟨_, List.getElem?_eq_getElem (by have := HN1.out; omega)⟩
      obtain ⟨b, o, rfl, hb, p1, p2⟩ := (RP.out.keep kk).at (pairsC_get (l := l) hs)
      have hcap := RP.out.cap
      have hx : W0[i]? = some (keyC l s) := by rw [HW0.out, List.getElem?_map, hs]; rfl
      have hst2 := Lib.hid (take_next hx)
      have HLI := Lib.hid hli
      have hiN : (i : Int) < (n1 : Int) := by omega
      have hi00 : (0 : Int) ≤ (i : Int) := Int.natCast_nonneg _
      dsimp only at p1 p2
      generalize keyC l s = x at *
      clear hx hli hs
      generalize W0.take i = V at *
      have hul : V.length ≤ 256 := by have := HLI.out; omega
      go_wp2_with (first | (at_builtin; refine (wpList_append_own _ rfl _ _ 22 rfl w1.heap.size 3 i0 (.int .i64 0) 1 8 Try.underlying22 hi hz0 hz1 hz2 rfl (by decide) u4 V.length _ rfl (hown.alloc _) ⟨wr.heap.size, 0, none⟩ 1 1 [.int .i64 x] rfl rfl (cell_one_new _ _ _) (by simp [Value.oneCell']) (by unfold maxLen; omega) (by omega) (by have := kk.size; simp; omega) ?_); intro v5 w5 hown5 hg5 _))
      go_roundw
      case rel =>
        refine ⟨i + 1, by omega, by go_num, by rw [hst2.out]; simpa using hown5, ?_⟩
        refine Keeps.trans (kk.alloc _) (Keeps.of_grown (S := u4.ownBlock.toList) hg5 (fun j hj => by simpa using hj)) (fun j hj hlt2 => ?_)
        have hj' : u4.ownBlock = some j := by simpa using hj
        have := (hown.lt j hj').1
        omega
      case measure => simp [intOf]; omega
    · obtain rfl : i = n1 := by omega
      rw [List.take_of_length_le (by have := HWL.out; omega)] at hown
      obtain ⟨a2, c2, rfl⟩ := own_form hown
      have RW := Lib.hid (own_reads hown)
      have kw := k1.then kk
      clear hown kk RP HN1 hli hlt hin
      go_wp2_with fail
      go_loopw [4, 7] (fun s4 s7 wx => ∃ (W : List Int) (C : Int) (ad : Option Addr) (c : Nat), s7 = .int .i64 C ∧ s4 = .slice ad W.length c ∧ Hid (RdI .i64 wx (.slice ad W.length c) W) ∧ Hid (FreeSt T C W) ∧ Keeps w wx []) (fun s4 _ _ => match s4 with | .slice _ n _ => n | _ => 0)
      case atStart => exact ⟨W0, 0, a2, c2, rfl, rfl, RW, F0, kw⟩
      case round =>
        obtain ⟨W, C, ad, c, rfl, rfl, hW, hF, kx⟩ := hrel
        clear RW F0 kw HW0 HWL
        obtain ⟨wo, rfl⟩ : ∃ wo : World, wo = wr := ⟨_, rfl⟩
        match W, hW, hF with
        | [], hW, hF =>
          have hC := hF.out.one (by simp)
          subst hC
          go_wp2_with fail
          go_ret2
          exact ⟨rfl, kx⟩
        | [a], hW, hF =>
          have hC := hF.out.one (by simp)
          subst hC
          go_wp2_with fail
          go_ret2
          exact ⟨rfl, kx⟩
        | a :: b :: r, hW, hF =>
          obtain ⟨f1, f2, f3, f4, f5, f6⟩ := hF.out.two
          obtain ⟨bb, oo, rfl, hb, hc⟩ := hW.out.addr (by simp)
          have g0 := hc 0 a rfl
          have g1 := hc 1 b rfl
          rw [Nat.add_zero] at g0
          have hcap := hW.out.cap
          simp only [List.length_cons] at hcap ⊢
          obtain ⟨a3, c3, hpost, rpost⟩ := slice_postI (P := Try.prog) Try.underlying22 hi hz1 hW.out (m := 2) (by simp)
          simp only [List.length_cons] at hpost rpost
          rw [show r.length + 1 + 1 - 2 = r.length by omega] at hpost rpost
          have RR : Hid (RdI .i64 wo (.slice a3 r.length c3) r) := rpost
          have FS := Lib.hid hF.out.step
          have hl2 : (1 : Int) < ((r.length + 1 + 1 : Nat) : Int) := by omega
          have hl3 : decide (1 < r.length + 1 + 1) = true := by simp
          have wab : IntKind.i64.wrap (a + b) = a + b := IntWalk.i64_in _ (by omega)
          have KX := Lib.hid kx
          have hpost2 : ∀ w', (Instr.slice 22 (.slice (some ⟨bb, oo, none⟩) (r.length + 1 + 1) c) (some (.int .i64 2)) none none).run Try.prog w' = .ok (.slice a3 r.length c3) w' := hpost
          clear hc rpost hF hW hpost kx
          go_wp2_with fail
          go_quiet (fail)
          have KQ : Hid (Keeps w (wo.drewN nq) []) := KX.out.drewN nq
          have RQ : Hid (RdI .i64 (wo.drewN nq) (.slice a3 r.length c3) r) := RR.out.drewN nq
          clear KX RR g0 g1
          generalize wo.drewN nq = W1 at *
          obtain ⟨X, hX⟩ : ∃ X, X = a + b := ⟨_, rfl⟩
          have FS2 : Hid (FreeSt T (C + X) (insW X r)) := by rw [hX]; exact FS.out
          have hX1 : 0 ≤ X := by omega
          have hX2 : X ≤ 549755813888 := by omega
          rw [← hX]
          clear FS hX wab hl2 hl3
          go_wp2_with fail
          go_loop [9] (fun s9 => ∃ k : Nat, k ≤ r.length ∧ s9 = .int .i64 k ∧ Hid (∀ (j : Nat) (y : Int), j < k → r[j]? = some y → y < X)) (fun s9 => r.length - (intOf s9).toNat)
          case atStart => exact ⟨0, Nat.zero_le _, rfl, fun j y hj => by omega⟩
          case round =>
            obtain ⟨k, hk, rfl, hall⟩ := hrel
            have hkI : (0 : Int) ≤ (k : Int) := Int.natCast_nonneg _
            have TAIL : Hid ((∀ y, r[k]? = some y → X ≤ y) → insW X r = r.take k ++ X :: r.drop k) := fun h => insW_at hall.out hk h
            by_cases hlt : k < r.length
            · obtain ⟨y, hy⟩ : ∃ y, r[k]? = some y := ⟨_, List.getElem?_eq_getElem hlt⟩
              obtain ⟨b3, o3, rfl, hb3, q0⟩ := RQ.out.at hy
              have hcap3 := RQ.out.cap
              have hkr : (k : Int) < (r.length : Int) := by omega
              have HY := Lib.hid hy
              clear hy
              by_cases hyx : y < X
              · have hd : decide (y < X) = true := decide_eq_true hyx
                have NX : Hid (∀ (j : Nat) (z : Int), j < k + 1 → r[j]? = some z → z < X) := fun j z hj hz => by
                  rcases Nat.eq_or_lt_of_le (Nat.le_of_lt_succ hj) with rfl | hj
                  · rw [HY.out] at hz; cases hz; exact hyx
                  · exact hall.out j z hj hz
                go_wp2_with fail
                go_round
                case rel => exact ⟨k + 1, by omega, by go_num, NX⟩
                case measure => simp [intOf]; omega
              · have hd : decide (y < X) = false := decide_eq_false hyx
                have EQ : Hid (insW X r = r.take k ++ X :: r.drop k) := TAIL.out (fun z hz => by rw [HY.out] at hz; cases hz; omega)
                clear TAIL hall HY
                obtain ⟨aT, cT, hpre, rT⟩ := slice_preI (P := Try.prog) Try.underlying22 hi hz1 RQ.out (m := k) (by omega)
                obtain ⟨aD, cD, hpost, rD⟩ := slice_postI (P := Try.prog) Try.underlying22 hi hz1 RQ.out (m := k) (by omega)
                have RT := Lib.hid rT
                have RD := Lib.hid rD
                have lT : (r.take k).length = k := by first | (simp; done) | (simp; omega)
                have lD : (r.drop k).length = r.length - k := by simp
                obtain ⟨TL, hTL⟩ : ∃ TL, TL = r.take k := ⟨_, rfl⟩
                obtain ⟨DL, hDL⟩ : ∃ DL, DL = r.drop k := ⟨_, rfl⟩
                rw [← hTL] at RT lT
                rw [← hDL] at RD lD
                have LT := Lib.hid lT
                have LD := Lib.hid lD
                have HE : Hid (insW X r = TL ++ X :: DL) := by rw [hTL, hDL]; exact EQ.out
                have FIN : Hid (∀ (w' : World) (v' : Value), w'.ownsRow W1.heap.size 3 1 v' (TL.length + [X].length + DL.length) (TL.map (Value.int .i64) ++ [X].map (Value.int .i64) ++ DL.map (Value.int .i64)) →
                    TL.length + [X].length + DL.length = (insW X r).length ∧ RdI .i64 w' v' (insW X r)) := fun w' v' h => by
                  have e : TL.length + [X].length + DL.length = (insW X r).length := by rw [HE.out]; simp; omega
                  have e2 : TL.map (Value.int .i64) ++ [X].map (Value.int .i64) ++ DL.map (Value.int .i64) = (insW X r).map (Value.int .i64) := by rw [HE.out]; simp
                  rw [e, e2] at h
                  exact ⟨e, own_reads h⟩
                clear rT rD lT lD hTL hDL EQ
                go_wp2_with fail
                refine wp_region_held_drew (S := (fun w' => Keeps W1 w' [])) (by kernel_rfl) (Keeps.refl W1 []).drew (fun hHeld => ?_)
                refine takeL (i := 1) (v := ?_) rfl (by kernel_rfl) (by kernel_rfl) (by kernel_rfl) (fun _ _ _ h => h) (by rfl) ?_ (by assumption) ?_
                rotate_left
                · (intro w hSw; (try dsimp only at hSw); go_simp; (try with_reducible rfl))
                try simp only [Act.put, List.setIfInBounds_toArray, List.set_cons_zero, List.set_cons_succ]
                refine takeL (i := 2) (v := ?_) rfl (by kernel_rfl) (by kernel_rfl) (by kernel_rfl) (fun _ _ _ h => h) (by rfl) ?_ (by assumption) ?_
                rotate_left
                · (intro w hSw; (try dsimp only at hSw); go_simp; (try with_reducible rfl))
                try simp only [Act.put, List.setIfInBounds_toArray, List.set_cons_zero, List.set_cons_succ]
                refine takeL (i := 3) (v := ?_) rfl (by kernel_rfl) (by kernel_rfl) (by kernel_rfl) (fun _ _ _ h => h) (by rfl) ?_ (by assumption) ?_
                rotate_left
                · (intro w hSw; (try dsimp only at hSw); go_simp; (try with_reducible rfl))
                try simp only [Act.put, List.setIfInBounds_toArray, List.set_cons_zero, List.set_cons_succ]
                refine takeL (i := 5) (v := ?_) rfl (by kernel_rfl) (by kernel_rfl) (by kernel_rfl) (fun _ _ _ h => h) (by rfl) ?_ (by assumption) ?_
                rotate_left
                · (intro w hSw; (try dsimp only at hSw); go_simp; (try with_reducible rfl))
                try simp only [Act.put, List.setIfInBounds_toArray, List.set_cons_zero, List.set_cons_succ]
                refine takeL (i := 8) (v := ?_) rfl (by kernel_rfl) (by kernel_rfl) (by kernel_rfl) (fun _ _ _ h => h) (by rfl) ?_ (by assumption) ?_
                rotate_left
                · (intro w hSw; (try dsimp only at hSw); go_simp; (try with_reducible rfl))
                try simp only [Act.put, List.setIfInBounds_toArray, List.set_cons_zero, List.set_cons_succ]
                refine takeL (i := 9) (v := ?_) rfl (by kernel_rfl) (by kernel_rfl) (by kernel_rfl) (fun _ _ _ h => h) (by rfl) ?_ (by assumption) ?_
                rotate_left
                · (intro w hSw; (try dsimp only at hSw); go_simp; (try with_reducible rfl))
                try simp only [Act.put, List.setIfInBounds_toArray, List.set_cons_zero, List.set_cons_succ]
                refine takeL (i := 10) (v := ?_) rfl (by kernel_rfl) (by kernel_rfl) (by kernel_rfl) (fun _ _ _ h => h) (by rfl) ?_ (by assumption) ?_
                rotate_left
                · (intro w hSw; (try dsimp only at hSw); go_simp; (try with_reducible rfl))
                try simp only [Act.put, List.setIfInBounds_toArray, List.set_cons_zero, List.set_cons_succ]
                refine call2L (i := 0) (j := 6) rfl rfl (by kernel_rfl) (fun Kont hK => ?_) (fun Kont hK => ?_)
                · go_simp
                  refine hK.out _ _ ?_ (fun hHeld => ?_)
                  · exact hHeld.alloc _
                  clear hK Kont
                  have OB : Hid ((W1.drew.alloc (.cells #[] 3)).ownsRow W1.heap.size 3 1 (.slice (some ⟨W1.heap.size, 0, none⟩) 0 0) 0 []) := by have h := own_build0 (W1.drew) 3 1; (try simp only [World.size_alloc] at h); exact own_base h (by simp)
                  refine call2L (i := 4) (j := 6) rfl rfl (by kernel_rfl) (fun Kont hK => ?_) (fun Kont hK => ?_)
                  · refine step_appendI rfl (.tmp 61) (.tmp 64) 22 rfl W1.heap.size 3 i0 (.int .i64 0) 8 Try.underlying22 hi hz0 hz1 hz2 rfl (.slice (some ⟨W1.heap.size, 0, none⟩) 0 0) (0) ([]) rfl (OB.out) (.slice aT k cT) rfl .i64 (TL) (RT.out.keeps hHeld) (by unfold maxLen; (try simp only [List.length_cons, List.length_nil]); have := LT.out; have := LD.out; omega) (by (try simp only [List.length_cons, List.length_nil]); have := LT.out; have := LD.out; omega) (by have := hHeld.size; omega) ?_
                    intro v4 w4 own4 g4
                    obtain ⟨q4, k4⟩ := grown_lowI (OB.out) g4 hHeld (Nat.le_refl _)
                    rw [Nat.zero_add, List.nil_append] at own4
                    obtain ⟨A4, c4, rfl⟩ := own_form own4
                    refine hK.out _ _ ?_ (fun hHeld => ?_)
                    · exact q4
                    clear hK Kont
                    try simp only [Act.put, List.setIfInBounds_toArray, List.set_cons_zero, List.set_cons_succ]
                    refine callL (i := 6) rfl (by kernel_rfl) (fun Kont hK => ?_)
                    go_simp
                    refine hK.out _ _ ?_ (fun hHeld => ?_)
                    · exact hHeld.alloc _
                    clear hK Kont
                    have BP : Hid (RdI .i64 (w4.alloc (.cells #[.int .i64 X] 3)) (.slice (some ⟨w4.heap.size, 0, none⟩) 1 1) [X]) := by have h := blk_one (Blk.new (w4) #[.int .i64 X] 3); (try simp only [World.size_alloc] at h); exact h
                    replace own4 := own_keeps own4 ((Keeps.refl _ []).alloc (.cells #[.int .i64 X] 3))
                    refine callL (i := 7) rfl (by kernel_rfl) (fun Kont hK => ?_)
                    refine step_appendI rfl (.tmp 65) (.tmp 67) 22 rfl W1.heap.size 3 i0 (.int .i64 0) 8 Try.underlying22 hi hz0 hz1 hz2 rfl (.slice A4 TL.length c4) (TL.length) (TL.map (Value.int .i64)) rfl (own4) (.slice (some ⟨w4.heap.size, 0, none⟩) 1 1) rfl .i64 ([X]) (BP.out) (by unfold maxLen; (try simp only [List.length_cons, List.length_nil]); have := LT.out; have := LD.out; omega) (by (try simp only [List.length_cons, List.length_nil]); have := LT.out; have := LD.out; omega) (by have := hHeld.size; omega) ?_
                    intro v7 w7 own7 g7
                    obtain ⟨q7, k7⟩ := grown_lowI (own4) g7 hHeld (Nat.le_refl _)
                    obtain ⟨A7, c7, rfl⟩ := own_form own7
                    refine hK.out _ _ ?_ (fun hHeld => ?_)
                    · exact q7
                    clear hK Kont
                    try simp only [Act.put, List.setIfInBounds_toArray, List.set_cons_zero, List.set_cons_succ]
                    refine callL (i := 11) rfl (by kernel_rfl) (fun Kont hK => ?_)
                    refine step_appendI rfl (.tmp 68) (.tmp 71) 22 rfl W1.heap.size 3 i0 (.int .i64 0) 8 Try.underlying22 hi hz0 hz1 hz2 rfl (.slice A7 (TL.length + [X].length) c7) (TL.length + [X].length) (TL.map (Value.int .i64) ++ [X].map (Value.int .i64)) rfl (own7) (.slice aD (r.length - k) cD) rfl .i64 (DL) (RD.out.keeps hHeld) (by unfold maxLen; (try simp only [List.length_cons, List.length_nil]); have := LT.out; have := LD.out; omega) (by (try simp only [List.length_cons, List.length_nil]); have := LT.out; have := LD.out; omega) (by have := hHeld.size; omega) ?_
                    intro v11 w11 own11 g11
                    obtain ⟨q11, k11⟩ := grown_lowI (own7) g11 hHeld (Nat.le_refl _)
                    obtain ⟨A11, c11, rfl⟩ := own_form own11
                    refine hK.out _ _ ?_ (fun hHeld => ?_)
                    · exact q11
                    clear hK Kont
                    try simp only [Act.put, List.setIfInBounds_toArray, List.set_cons_zero, List.set_cons_succ]
                    have FIN2 := FIN.out _ _ own11
                    have e11 : TL.length + 1 + DL.length = (insW X r).length := by have h := FIN2.1; simpa using h
                    have E11 := Lib.hid e11
                    have R11 : Hid (RdI .i64 w11 (.slice A11 (insW X r).length c11) (insW X r)) := by have h := FIN2.2; rw [FIN2.1] at h; exact h
                    clear own11 own7 own4 FIN2 e11
                    refine takeL (i := 12) (v := ?_) rfl (by kernel_rfl) (by kernel_rfl) (by kernel_rfl) (fun _ _ _ h => h) (by rfl) ?_ (by assumption) ?_
                    rotate_left
                    · (intro w hSw; (try dsimp only at hSw); go_simp; (try with_reducible rfl))
                    try simp only [Act.put, List.setIfInBounds_toArray, List.set_cons_zero, List.set_cons_succ]
                    refine wpAnyH_done (by kernel_rfl) ?_ _
                    go_wp2_with fail
                    go_roundw
                    case rel => exact ⟨insW X r, C + X, _, _, rfl, by rw [E11.out], R11, FS2, KQ.out.then hHeld⟩
                    case measure => have h1 := E11.out; have h2 := insW_len X r; simp; omega
                  · go_simp
                    refine hK.out _ _ ?_ (fun hHeld => ?_)
                    · exact hHeld.alloc _
                    clear hK Kont
                    have BP : Hid (RdI .i64 ((W1.drew.alloc (.cells #[] 3)).alloc (.cells #[.int .i64 X] 3)) (.slice (some ⟨W1.heap.size + 1, 0, none⟩) 1 1) [X]) := by have h := blk_one (Blk.new ((W1.drew.alloc (.cells #[] 3))) #[.int .i64 X] 3); (try simp only [World.size_alloc] at h); exact h
                    replace OB := Lib.hid (own_keeps OB.out ((Keeps.refl _ []).alloc (.cells #[.int .i64 X] 3)))
                    refine callL (i := 4) rfl (by kernel_rfl) (fun Kont hK => ?_)
                    refine step_appendI rfl (.tmp 61) (.tmp 64) 22 rfl W1.heap.size 3 i0 (.int .i64 0) 8 Try.underlying22 hi hz0 hz1 hz2 rfl (.slice (some ⟨W1.heap.size, 0, none⟩) 0 0) (0) ([]) rfl (OB.out) (.slice aT k cT) rfl .i64 (TL) (RT.out.keeps hHeld) (by unfold maxLen; (try simp only [List.length_cons, List.length_nil]); have := LT.out; have := LD.out; omega) (by (try simp only [List.length_cons, List.length_nil]); have := LT.out; have := LD.out; omega) (by have := hHeld.size; omega) ?_
                    intro v4 w4 own4 g4
                    obtain ⟨q4, k4⟩ := grown_lowI (OB.out) g4 hHeld (Nat.le_refl _)
                    rw [Nat.zero_add, List.nil_append] at own4
                    obtain ⟨A4, c4, rfl⟩ := own_form own4
                    replace BP := Lib.hid (BP.out.keepsS k4 (fun ad n c he h0 hm => by cases he; simp [Value.ownBlock] at hm))
                    refine hK.out _ _ ?_ (fun hHeld => ?_)
                    · exact q4
                    clear hK Kont
                    try simp only [Act.put, List.setIfInBounds_toArray, List.set_cons_zero, List.set_cons_succ]
                    refine callL (i := 7) rfl (by kernel_rfl) (fun Kont hK => ?_)
                    refine step_appendI rfl (.tmp 65) (.tmp 67) 22 rfl W1.heap.size 3 i0 (.int .i64 0) 8 Try.underlying22 hi hz0 hz1 hz2 rfl (.slice A4 TL.length c4) (TL.length) (TL.map (Value.int .i64)) rfl (own4) (.slice (some ⟨W1.heap.size + 1, 0, none⟩) 1 1) rfl .i64 ([X]) (BP.out) (by unfold maxLen; (try simp only [List.length_cons, List.length_nil]); have := LT.out; have := LD.out; omega) (by (try simp only [List.length_cons, List.length_nil]); have := LT.out; have := LD.out; omega) (by have := hHeld.size; omega) ?_
                    intro v7 w7 own7 g7
                    obtain ⟨q7, k7⟩ := grown_lowI (own4) g7 hHeld (Nat.le_refl _)
                    obtain ⟨A7, c7, rfl⟩ := own_form own7
                    refine hK.out _ _ ?_ (fun hHeld => ?_)
                    · exact q7
                    clear hK Kont
                    try simp only [Act.put, List.setIfInBounds_toArray, List.set_cons_zero, List.set_cons_succ]
                    refine callL (i := 11) rfl (by kernel_rfl) (fun Kont hK => ?_)
                    refine step_appendI rfl (.tmp 68) (.tmp 71) 22 rfl W1.heap.size 3 i0 (.int .i64 0) 8 Try.underlying22 hi hz0 hz1 hz2 rfl (.slice A7 (TL.length + [X].length) c7) (TL.length + [X].length) (TL.map (Value.int .i64) ++ [X].map (Value.int .i64)) rfl (own7) (.slice aD (r.length - k) cD) rfl .i64 (DL) (RD.out.keeps hHeld) (by unfold maxLen; (try simp only [List.length_cons, List.length_nil]); have := LT.out; have := LD.out; omega) (by (try simp only [List.length_cons, List.length_nil]); have := LT.out; have := LD.out; omega) (by have := hHeld.size; omega) ?_
                    intro v11 w11 own11 g11
                    obtain ⟨q11, k11⟩ := grown_lowI (own7) g11 hHeld (Nat.le_refl _)
                    obtain ⟨A11, c11, rfl⟩ := own_form own11
                    refine hK.out _ _ ?_ (fun hHeld => ?_)
                    · exact q11
                    clear hK Kont
                    try simp only [Act.put, List.setIfInBounds_toArray, List.set_cons_zero, List.set_cons_succ]
                    have FIN2 := FIN.out _ _ own11
                    have e11 : TL.length + 1 + DL.length = (insW X r).length := by have h := FIN2.1; simpa using h
                    have E11 := Lib.hid e11
                    have R11 : Hid (RdI .i64 w11 (.slice A11 (insW X r).length c11) (insW X r)) := by have h := FIN2.2; rw [FIN2.1] at h; exact h
                    clear own11 own7 own4 FIN2 e11
                    refine takeL (i := 12) (v := ?_) rfl (by kernel_rfl) (by kernel_rfl) (by kernel_rfl) (fun _ _ _ h => h) (by rfl) ?_ (by assumption) ?_
                    rotate_left
                    · (intro w hSw; (try dsimp only at hSw); go_simp; (try with_reducible rfl))
                    try simp only [Act.put, List.setIfInBounds_toArray, List.set_cons_zero, List.set_cons_succ]
                    refine wpAnyH_done (by kernel_rfl) ?_ _
                    go_wp2_with fail
                    go_roundw
                    case rel => exact ⟨insW X r, C + X, _, _, rfl, by rw [E11.out], R11, FS2, KQ.out.then hHeld⟩
                    case measure => have h1 := E11.out; have h2 := insW_len X r; simp; omega
                · go_simp
                  refine hK.out _ _ ?_ (fun hHeld => ?_)
                  · exact hHeld.alloc _
                  clear hK Kont
                  have BP : Hid (RdI .i64 (W1.drew.alloc (.cells #[.int .i64 X] 3)) (.slice (some ⟨W1.heap.size, 0, none⟩) 1 1) [X]) := by have h := blk_one (Blk.new (W1.drew) #[.int .i64 X] 3); (try simp only [World.size_alloc] at h); exact h
                  refine callL (i := 0) rfl (by kernel_rfl) (fun Kont hK => ?_)
                  go_simp
                  refine hK.out _ _ ?_ (fun hHeld => ?_)
                  · exact hHeld.alloc _
                  clear hK Kont
                  have OB : Hid (((W1.drew.alloc (.cells #[.int .i64 X] 3)).alloc (.cells #[] 3)).ownsRow W1.heap.size 3 1 (.slice (some ⟨W1.heap.size + 1, 0, none⟩) 0 0) 0 []) := by have h := own_build0 ((W1.drew.alloc (.cells #[.int .i64 X] 3))) 3 1; (try simp only [World.size_alloc] at h); exact own_base h (by simp)
                  replace BP := Lib.hid (BP.out.keeps ((Keeps.refl _ []).alloc (.cells #[] 3)))
                  refine callL (i := 4) rfl (by kernel_rfl) (fun Kont hK => ?_)
                  refine step_appendI rfl (.tmp 61) (.tmp 64) 22 rfl W1.heap.size 3 i0 (.int .i64 0) 8 Try.underlying22 hi hz0 hz1 hz2 rfl (.slice (some ⟨W1.heap.size + 1, 0, none⟩) 0 0) (0) ([]) rfl (OB.out) (.slice aT k cT) rfl .i64 (TL) (RT.out.keeps hHeld) (by unfold maxLen; (try simp only [List.length_cons, List.length_nil]); have := LT.out; have := LD.out; omega) (by (try simp only [List.length_cons, List.length_nil]); have := LT.out; have := LD.out; omega) (by have := hHeld.size; omega) ?_
                  intro v4 w4 own4 g4
                  obtain ⟨q4, k4⟩ := grown_lowI (OB.out) g4 hHeld (Nat.le_refl _)
                  rw [Nat.zero_add, List.nil_append] at own4
                  obtain ⟨A4, c4, rfl⟩ := own_form own4
                  replace BP := Lib.hid (BP.out.keepsS k4 (fun ad n c he h0 hm => by cases he; simp [Value.ownBlock] at hm))
                  refine hK.out _ _ ?_ (fun hHeld => ?_)
                  · exact q4
                  clear hK Kont
                  try simp only [Act.put, List.setIfInBounds_toArray, List.set_cons_zero, List.set_cons_succ]
                  refine callL (i := 7) rfl (by kernel_rfl) (fun Kont hK => ?_)
                  refine step_appendI rfl (.tmp 65) (.tmp 67) 22 rfl W1.heap.size 3 i0 (.int .i64 0) 8 Try.underlying22 hi hz0 hz1 hz2 rfl (.slice A4 TL.length c4) (TL.length) (TL.map (Value.int .i64)) rfl (own4) (.slice (some ⟨W1.heap.size, 0, none⟩) 1 1) rfl .i64 ([X]) (BP.out) (by unfold maxLen; (try simp only [List.length_cons, List.length_nil]); have := LT.out; have := LD.out; omega) (by (try simp only [List.length_cons, List.length_nil]); have := LT.out; have := LD.out; omega) (by have := hHeld.size; omega) ?_
                  intro v7 w7 own7 g7
                  obtain ⟨q7, k7⟩ := grown_lowI (own4) g7 hHeld (Nat.le_refl _)
                  obtain ⟨A7, c7, rfl⟩ := own_form own7
                  refine hK.out _ _ ?_ (fun hHeld => ?_)
                  · exact q7
                  clear hK Kont
                  try simp only [Act.put, List.setIfInBounds_toArray, List.set_cons_zero, List.set_cons_succ]
                  refine callL (i := 11) rfl (by kernel_rfl) (fun Kont hK => ?_)
                  refine step_appendI rfl (.tmp 68) (.tmp 71) 22 rfl W1.heap.size 3 i0 (.int .i64 0) 8 Try.underlying22 hi hz0 hz1 hz2 rfl (.slice A7 (TL.length + [X].length) c7) (TL.length + [X].length) (TL.map (Value.int .i64) ++ [X].map (Value.int .i64)) rfl (own7) (.slice aD (r.length - k) cD) rfl .i64 (DL) (RD.out.keeps hHeld) (by unfold maxLen; (try simp only [List.length_cons, List.length_nil]); have := LT.out; have := LD.out; omega) (by (try simp only [List.length_cons, List.length_nil]); have := LT.out; have := LD.out; omega) (by have := hHeld.size; omega) ?_
                  intro v11 w11 own11 g11
                  obtain ⟨q11, k11⟩ := grown_lowI (own7) g11 hHeld (Nat.le_refl _)
                  obtain ⟨A11, c11, rfl⟩ := own_form own11
                  refine hK.out _ _ ?_ (fun hHeld => ?_)
                  · exact q11
                  clear hK Kont
                  try simp only [Act.put, List.setIfInBounds_toArray, List.set_cons_zero, List.set_cons_succ]
                  have FIN2 := FIN.out _ _ own11
                  have e11 : TL.length + 1 + DL.length = (insW X r).length := by have h := FIN2.1; simpa using h
                  have E11 := Lib.hid e11
                  have R11 : Hid (RdI .i64 w11 (.slice A11 (insW X r).length c11) (insW X r)) := by have h := FIN2.2; rw [FIN2.1] at h; exact h
                  clear own11 own7 own4 FIN2 e11
                  refine takeL (i := 12) (v := ?_) rfl (by kernel_rfl) (by kernel_rfl) (by kernel_rfl) (fun _ _ _ h => h) (by rfl) ?_ (by assumption) ?_
                  rotate_left
                  · (intro w hSw; (try dsimp only at hSw); go_simp; (try with_reducible rfl))
                  try simp only [Act.put, List.setIfInBounds_toArray, List.set_cons_zero, List.set_cons_succ]
                  refine wpAnyH_done (by kernel_rfl) ?_ _
                  go_wp2_with fail
                  go_roundw
                  case rel => exact ⟨insW X r, C + X, _, _, rfl, by rw [E11.out], R11, FS2, KQ.out.then hHeld⟩
                  case measure => have h1 := E11.out; have h2 := insW_len X r; simp; omega
            · obtain rfl : k = r.length := by omega
              have hd : decide (r.length < r.length) = false := by simp
              have EQ : Hid (insW X r = r.take r.length ++ X :: r.drop r.length) := TAIL.out (fun z hz => by rw [List.getElem?_eq_none (Nat.le_refl _)] at hz; cases hz)
              clear TAIL hall
              obtain ⟨aT, cT, hpre, rT⟩ := slice_preI (P := Try.prog) Try.underlying22 hi hz1 RQ.out (m := r.length) (by omega)
              obtain ⟨aD, cD, hpost, rD⟩ := slice_postI (P := Try.prog) Try.underlying22 hi hz1 RQ.out (m := r.length) (by omega)
              simp only [Nat.sub_self] at hpost rD
              have RT := Lib.hid rT
              have RD := Lib.hid rD
              have lT : (r.take r.length).length = r.length := by first | (simp; done) | (simp; omega)
              have lD : (r.drop r.length).length = r.length - r.length := by simp
              obtain ⟨TL, hTL⟩ : ∃ TL, TL = r.take r.length := ⟨_, rfl⟩
              obtain ⟨DL, hDL⟩ : ∃ DL, DL = r.drop r.length := ⟨_, rfl⟩
              rw [← hTL] at RT lT
              rw [← hDL] at RD lD
              have LT := Lib.hid lT
              have LD := Lib.hid lD
              have HE : Hid (insW X r = TL ++ X :: DL) := by rw [hTL, hDL]; exact EQ.out
              have FIN : Hid (∀ (w' : World) (v' : Value), w'.ownsRow W1.heap.size 3 1 v' (TL.length + [X].length + DL.length) (TL.map (Value.int .i64) ++ [X].map (Value.int .i64) ++ DL.map (Value.int .i64)) →
                  TL.length + [X].length + DL.length = (insW X r).length ∧ RdI .i64 w' v' (insW X r)) := fun w' v' h => by
                have e : TL.length + [X].length + DL.length = (insW X r).length := by rw [HE.out]; simp; omega
                have e2 : TL.map (Value.int .i64) ++ [X].map (Value.int .i64) ++ DL.map (Value.int .i64) = (insW X r).map (Value.int .i64) := by rw [HE.out]; simp
                rw [e, e2] at h
                exact ⟨e, own_reads h⟩
              clear rT rD lT lD hTL hDL EQ
              go_wp2_with fail
              refine wp_region_held_drew (S := (fun w' => Keeps W1 w' [])) (by kernel_rfl) (Keeps.refl W1 []).drew (fun hHeld => ?_)
              refine takeL (i := 1) (v := ?_) rfl (by kernel_rfl) (by kernel_rfl) (by kernel_rfl) (fun _ _ _ h => h) (by rfl) ?_ (by assumption) ?_
              rotate_left
              · (intro w hSw; (try dsimp only at hSw); go_simp; (try with_reducible rfl))
              try simp only [Act.put, List.setIfInBounds_toArray, List.set_cons_zero, List.set_cons_succ]
              refine takeL (i := 2) (v := ?_) rfl (by kernel_rfl) (by kernel_rfl) (by kernel_rfl) (fun _ _ _ h => h) (by rfl) ?_ (by assumption) ?_
              rotate_left
              · (intro w hSw; (try dsimp only at hSw); go_simp; (try with_reducible rfl))
              try simp only [Act.put, List.setIfInBounds_toArray, List.set_cons_zero, List.set_cons_succ]
              refine takeL (i := 3) (v := ?_) rfl (by kernel_rfl) (by kernel_rfl) (by kernel_rfl) (fun _ _ _ h => h) (by rfl) ?_ (by assumption) ?_
              rotate_left
              · (intro w hSw; (try dsimp only at hSw); go_simp; (try with_reducible rfl))
              try simp only [Act.put, List.setIfInBounds_toArray, List.set_cons_zero, List.set_cons_succ]
              refine takeL (i := 5) (v := ?_) rfl (by kernel_rfl) (by kernel_rfl) (by kernel_rfl) (fun _ _ _ h => h) (by rfl) ?_ (by assumption) ?_
              rotate_left
              · (intro w hSw; (try dsimp only at hSw); go_simp; (try with_reducible rfl))
              try simp only [Act.put, List.setIfInBounds_toArray, List.set_cons_zero, List.set_cons_succ]
              refine takeL (i := 8) (v := ?_) rfl (by kernel_rfl) (by kernel_rfl) (by kernel_rfl) (fun _ _ _ h => h) (by rfl) ?_ (by assumption) ?_
              rotate_left
              · (intro w hSw; (try dsimp only at hSw); go_simp; (try with_reducible rfl))
              try simp only [Act.put, List.setIfInBounds_toArray, List.set_cons_zero, List.set_cons_succ]
              refine takeL (i := 9) (v := ?_) rfl (by kernel_rfl) (by kernel_rfl) (by kernel_rfl) (fun _ _ _ h => h) (by rfl) ?_ (by assumption) ?_
              rotate_left
              · (intro w hSw; (try dsimp only at hSw); go_simp; (try with_reducible rfl))
              try simp only [Act.put, List.setIfInBounds_toArray, List.set_cons_zero, List.set_cons_succ]
              refine takeL (i := 10) (v := ?_) rfl (by kernel_rfl) (by kernel_rfl) (by kernel_rfl) (fun _ _ _ h => h) (by rfl) ?_ (by assumption) ?_
              rotate_left
              · (intro w hSw; (try dsimp only at hSw); go_simp; (try with_reducible rfl))
              try simp only [Act.put, List.setIfInBounds_toArray, List.set_cons_zero, List.set_cons_succ]
              refine call2L (i := 0) (j := 6) rfl rfl (by kernel_rfl) (fun Kont hK => ?_) (fun Kont hK => ?_)
              · go_simp
                refine hK.out _ _ ?_ (fun hHeld => ?_)
                · exact hHeld.alloc _
                clear hK Kont
                have OB : Hid ((W1.drew.alloc (.cells #[] 3)).ownsRow W1.heap.size 3 1 (.slice (some ⟨W1.heap.size, 0, none⟩) 0 0) 0 []) := by have h := own_build0 (W1.drew) 3 1; (try simp only [World.size_alloc] at h); exact own_base h (by simp)
                refine call2L (i := 4) (j := 6) rfl rfl (by kernel_rfl) (fun Kont hK => ?_) (fun Kont hK => ?_)
                · refine step_appendI rfl (.tmp 61) (.tmp 64) 22 rfl W1.heap.size 3 i0 (.int .i64 0) 8 Try.underlying22 hi hz0 hz1 hz2 rfl (.slice (some ⟨W1.heap.size, 0, none⟩) 0 0) (0) ([]) rfl (OB.out) (.slice aT r.length cT) rfl .i64 (TL) (RT.out.keeps hHeld) (by unfold maxLen; (try simp only [List.length_cons, List.length_nil]); have := LT.out; have := LD.out; omega) (by (try simp only [List.length_cons, List.length_nil]); have := LT.out; have := LD.out; omega) (by have := hHeld.size; omega) ?_
                  intro v4 w4 own4 g4
                  obtain ⟨q4, k4⟩ := grown_lowI (OB.out) g4 hHeld (Nat.le_refl _)
                  rw [Nat.zero_add, List.nil_append] at own4
                  obtain ⟨A4, c4, rfl⟩ := own_form own4
                  refine hK.out _ _ ?_ (fun hHeld => ?_)
                  · exact q4
                  clear hK Kont
                  try simp only [Act.put, List.setIfInBounds_toArray, List.set_cons_zero, List.set_cons_succ]
                  refine callL (i := 6) rfl (by kernel_rfl) (fun Kont hK => ?_)
                  go_simp
                  refine hK.out _ _ ?_ (fun hHeld => ?_)
                  · exact hHeld.alloc _
                  clear hK Kont
                  have BP : Hid (RdI .i64 (w4.alloc (.cells #[.int .i64 X] 3)) (.slice (some ⟨w4.heap.size, 0, none⟩) 1 1) [X]) := by have h := blk_one (Blk.new (w4) #[.int .i64 X] 3); (try simp only [World.size_alloc] at h); exact h
                  replace own4 := own_keeps own4 ((Keeps.refl _ []).alloc (.cells #[.int .i64 X] 3))
                  refine callL (i := 7) rfl (by kernel_rfl) (fun Kont hK => ?_)
                  refine step_appendI rfl (.tmp 65) (.tmp 67) 22 rfl W1.heap.size 3 i0 (.int .i64 0) 8 Try.underlying22 hi hz0 hz1 hz2 rfl (.slice A4 TL.length c4) (TL.length) (TL.map (Value.int .i64)) rfl (own4) (.slice (some ⟨w4.heap.size, 0, none⟩) 1 1) rfl .i64 ([X]) (BP.out) (by unfold maxLen; (try simp only [List.length_cons, List.length_nil]); have := LT.out; have := LD.out; omega) (by (try simp only [List.length_cons, List.length_nil]); have := LT.out; have := LD.out; omega) (by have := hHeld.size; omega) ?_
                  intro v7 w7 own7 g7
                  obtain ⟨q7, k7⟩ := grown_lowI (own4) g7 hHeld (Nat.le_refl _)
                  obtain ⟨A7, c7, rfl⟩ := own_form own7
                  refine hK.out _ _ ?_ (fun hHeld => ?_)
                  · exact q7
                  clear hK Kont
                  try simp only [Act.put, List.setIfInBounds_toArray, List.set_cons_zero, List.set_cons_succ]
                  refine callL (i := 11) rfl (by kernel_rfl) (fun Kont hK => ?_)
                  refine step_appendI rfl (.tmp 68) (.tmp 71) 22 rfl W1.heap.size 3 i0 (.int .i64 0) 8 Try.underlying22 hi hz0 hz1 hz2 rfl (.slice A7 (TL.length + [X].length) c7) (TL.length + [X].length) (TL.map (Value.int .i64) ++ [X].map (Value.int .i64)) rfl (own7) (.slice aD 0 cD) rfl .i64 (DL) (RD.out.keeps hHeld) (by unfold maxLen; (try simp only [List.length_cons, List.length_nil]); have := LT.out; have := LD.out; omega) (by (try simp only [List.length_cons, List.length_nil]); have := LT.out; have := LD.out; omega) (by have := hHeld.size; omega) ?_
                  intro v11 w11 own11 g11
                  obtain ⟨q11, k11⟩ := grown_lowI (own7) g11 hHeld (Nat.le_refl _)
                  obtain ⟨A11, c11, rfl⟩ := own_form own11
                  refine hK.out _ _ ?_ (fun hHeld => ?_)
                  · exact q11
                  clear hK Kont
                  try simp only [Act.put, List.setIfInBounds_toArray, List.set_cons_zero, List.set_cons_succ]
                  have FIN2 := FIN.out _ _ own11
                  have e11 : TL.length + 1 + DL.length = (insW X r).length := by have h := FIN2.1; simpa using h
                  have E11 := Lib.hid e11
                  have R11 : Hid (RdI .i64 w11 (.slice A11 (insW X r).length c11) (insW X r)) := by have h := FIN2.2; rw [FIN2.1] at h; exact h
                  clear own11 own7 own4 FIN2 e11
                  refine takeL (i := 12) (v := ?_) rfl (by kernel_rfl) (by kernel_rfl) (by kernel_rfl) (fun _ _ _ h => h) (by rfl) ?_ (by assumption) ?_
                  rotate_left
                  · (intro w hSw; (try dsimp only at hSw); go_simp; (try with_reducible rfl))
                  try simp only [Act.put, List.setIfInBounds_toArray, List.set_cons_zero, List.set_cons_succ]
                  refine wpAnyH_done (by kernel_rfl) ?_ _
                  go_wp2_with fail
                  go_roundw
                  case rel => exact ⟨insW X r, C + X, _, _, rfl, by rw [E11.out], R11, FS2, KQ.out.then hHeld⟩
                  case measure => have h1 := E11.out; have h2 := insW_len X r; simp; omega
                · go_simp
                  refine hK.out _ _ ?_ (fun hHeld => ?_)
                  · exact hHeld.alloc _
                  clear hK Kont
                  have BP : Hid (RdI .i64 ((W1.drew.alloc (.cells #[] 3)).alloc (.cells #[.int .i64 X] 3)) (.slice (some ⟨W1.heap.size + 1, 0, none⟩) 1 1) [X]) := by have h := blk_one (Blk.new ((W1.drew.alloc (.cells #[] 3))) #[.int .i64 X] 3); (try simp only [World.size_alloc] at h); exact h
                  replace OB := Lib.hid (own_keeps OB.out ((Keeps.refl _ []).alloc (.cells #[.int .i64 X] 3)))
                  refine callL (i := 4) rfl (by kernel_rfl) (fun Kont hK => ?_)
                  refine step_appendI rfl (.tmp 61) (.tmp 64) 22 rfl W1.heap.size 3 i0 (.int .i64 0) 8 Try.underlying22 hi hz0 hz1 hz2 rfl (.slice (some ⟨W1.heap.size, 0, none⟩) 0 0) (0) ([]) rfl (OB.out) (.slice aT r.length cT) rfl .i64 (TL) (RT.out.keeps hHeld) (by unfold maxLen; (try simp only [List.length_cons, List.length_nil]); have := LT.out; have := LD.out; omega) (by (try simp only [List.length_cons, List.length_nil]); have := LT.out; have := LD.out; omega) (by have := hHeld.size; omega) ?_
                  intro v4 w4 own4 g4
                  obtain ⟨q4, k4⟩ := grown_lowI (OB.out) g4 hHeld (Nat.le_refl _)
                  rw [Nat.zero_add, List.nil_append] at own4
                  obtain ⟨A4, c4, rfl⟩ := own_form own4
                  replace BP := Lib.hid (BP.out.keepsS k4 (fun ad n c he h0 hm => by cases he; simp [Value.ownBlock] at hm))
                  refine hK.out _ _ ?_ (fun hHeld => ?_)
                  · exact q4
                  clear hK Kont
                  try simp only [Act.put, List.setIfInBounds_toArray, List.set_cons_zero, List.set_cons_succ]
                  refine callL (i := 7) rfl (by kernel_rfl) (fun Kont hK => ?_)
                  refine step_appendI rfl (.tmp 65) (.tmp 67) 22 rfl W1.heap.size 3 i0 (.int .i64 0) 8 Try.underlying22 hi hz0 hz1 hz2 rfl (.slice A4 TL.length c4) (TL.length) (TL.map (Value.int .i64)) rfl (own4) (.slice (some ⟨W1.heap.size + 1, 0, none⟩) 1 1) rfl .i64 ([X]) (BP.out) (by unfold maxLen; (try simp only [List.length_cons, List.length_nil]); have := LT.out; have := LD.out; omega) (by (try simp only [List.length_cons, List.length_nil]); have := LT.out; have := LD.out; omega) (by have := hHeld.size; omega) ?_
                  intro v7 w7 own7 g7
                  obtain ⟨q7, k7⟩ := grown_lowI (own4) g7 hHeld (Nat.le_refl _)
                  obtain ⟨A7, c7, rfl⟩ := own_form own7
                  refine hK.out _ _ ?_ (fun hHeld => ?_)
                  · exact q7
                  clear hK Kont
                  try simp only [Act.put, List.setIfInBounds_toArray, List.set_cons_zero, List.set_cons_succ]
                  refine callL (i := 11) rfl (by kernel_rfl) (fun Kont hK => ?_)
                  refine step_appendI rfl (.tmp 68) (.tmp 71) 22 rfl W1.heap.size 3 i0 (.int .i64 0) 8 Try.underlying22 hi hz0 hz1 hz2 rfl (.slice A7 (TL.length + [X].length) c7) (TL.length + [X].length) (TL.map (Value.int .i64) ++ [X].map (Value.int .i64)) rfl (own7) (.slice aD 0 cD) rfl .i64 (DL) (RD.out.keeps hHeld) (by unfold maxLen; (try simp only [List.length_cons, List.length_nil]); have := LT.out; have := LD.out; omega) (by (try simp only [List.length_cons, List.length_nil]); have := LT.out; have := LD.out; omega) (by have := hHeld.size; omega) ?_
                  intro v11 w11 own11 g11
                  obtain ⟨q11, k11⟩ := grown_lowI (own7) g11 hHeld (Nat.le_refl _)
                  obtain ⟨A11, c11, rfl⟩ := own_form own11
                  refine hK.out _ _ ?_ (fun hHeld => ?_)
                  · exact q11
                  clear hK Kont
                  try simp only [Act.put, List.setIfInBounds_toArray, List.set_cons_zero, List.set_cons_succ]
                  have FIN2 := FIN.out _ _ own11
                  have e11 : TL.length + 1 + DL.length = (insW X r).length := by have h := FIN2.1; simpa using h
                  have E11 := Lib.hid e11
                  have R11 : Hid (RdI .i64 w11 (.slice A11 (insW X r).length c11) (insW X r)) := by have h := FIN2.2; rw [FIN2.1] at h; exact h
                  clear own11 own7 own4 FIN2 e11
                  refine takeL (i := 12) (v := ?_) rfl (by kernel_rfl) (by kernel_rfl) (by kernel_rfl) (fun _ _ _ h => h) (by rfl) ?_ (by assumption) ?_
                  rotate_left
                  · (intro w hSw; (try dsimp only at hSw); go_simp; (try with_reducible rfl))
                  try simp only [Act.put, List.setIfInBounds_toArray, List.set_cons_zero, List.set_cons_succ]
                  refine wpAnyH_done (by kernel_rfl) ?_ _
                  go_wp2_with fail
                  go_roundw
                  case rel => exact ⟨insW X r, C + X, _, _, rfl, by rw [E11.out], R11, FS2, KQ.out.then hHeld⟩
                  case measure => have h1 := E11.out; have h2 := insW_len X r; simp; omega
              · go_simp
                refine hK.out _ _ ?_ (fun hHeld => ?_)
                · exact hHeld.alloc _
                clear hK Kont
                have BP : Hid (RdI .i64 (W1.drew.alloc (.cells #[.int .i64 X] 3)) (.slice (some ⟨W1.heap.size, 0, none⟩) 1 1) [X]) := by have h := blk_one (Blk.new (W1.drew) #[.int .i64 X] 3); (try simp only [World.size_alloc] at h); exact h
                refine callL (i := 0) rfl (by kernel_rfl) (fun Kont hK => ?_)
                go_simp
                refine hK.out _ _ ?_ (fun hHeld => ?_)
                · exact hHeld.alloc _
                clear hK Kont
                have OB : Hid (((W1.drew.alloc (.cells #[.int .i64 X] 3)).alloc (.cells #[] 3)).ownsRow W1.heap.size 3 1 (.slice (some ⟨W1.heap.size + 1, 0, none⟩) 0 0) 0 []) := by have h := own_build0 ((W1.drew.alloc (.cells #[.int .i64 X] 3))) 3 1; (try simp only [World.size_alloc] at h); exact own_base h (by simp)
                replace BP := Lib.hid (BP.out.keeps ((Keeps.refl _ []).alloc (.cells #[] 3)))
                refine callL (i := 4) rfl (by kernel_rfl) (fun Kont hK => ?_)
                refine step_appendI rfl (.tmp 61) (.tmp 64) 22 rfl W1.heap.size 3 i0 (.int .i64 0) 8 Try.underlying22 hi hz0 hz1 hz2 rfl (.slice (some ⟨W1.heap.size + 1, 0, none⟩) 0 0) (0) ([]) rfl (OB.out) (.slice aT r.length cT) rfl .i64 (TL) (RT.out.keeps hHeld) (by unfold maxLen; (try simp only [List.length_cons, List.length_nil]); have := LT.out; have := LD.out; omega) (by (try simp only [List.length_cons, List.length_nil]); have := LT.out; have := LD.out; omega) (by have := hHeld.size; omega) ?_
                intro v4 w4 own4 g4
                obtain ⟨q4, k4⟩ := grown_lowI (OB.out) g4 hHeld (Nat.le_refl _)
                rw [Nat.zero_add, List.nil_append] at own4
                obtain ⟨A4, c4, rfl⟩ := own_form own4
                replace BP := Lib.hid (BP.out.keepsS k4 (fun ad n c he h0 hm => by cases he; simp [Value.ownBlock] at hm))
                refine hK.out _ _ ?_ (fun hHeld => ?_)
                · exact q4
                clear hK Kont
                try simp only [Act.put, List.setIfInBounds_toArray, List.set_cons_zero, List.set_cons_succ]
                refine callL (i := 7) rfl (by kernel_rfl) (fun Kont hK => ?_)
                refine step_appendI rfl (.tmp 65) (.tmp 67) 22 rfl W1.heap.size 3 i0 (.int .i64 0) 8 Try.underlying22 hi hz0 hz1 hz2 rfl (.slice A4 TL.length c4) (TL.length) (TL.map (Value.int .i64)) rfl (own4) (.slice (some ⟨W1.heap.size, 0, none⟩) 1 1) rfl .i64 ([X]) (BP.out) (by unfold maxLen; (try simp only [List.length_cons, List.length_nil]); have := LT.out; have := LD.out; omega) (by (try simp only [List.length_cons, List.length_nil]); have := LT.out; have := LD.out; omega) (by have := hHeld.size; omega) ?_
                intro v7 w7 own7 g7
                obtain ⟨q7, k7⟩ := grown_lowI (own4) g7 hHeld (Nat.le_refl _)
                obtain ⟨A7, c7, rfl⟩ := own_form own7
                refine hK.out _ _ ?_ (fun hHeld => ?_)
                · exact q7
                clear hK Kont
                try simp only [Act.put, List.setIfInBounds_toArray, List.set_cons_zero, List.set_cons_succ]
                refine callL (i := 11) rfl (by kernel_rfl) (fun Kont hK => ?_)
                refine step_appendI rfl (.tmp 68) (.tmp 71) 22 rfl W1.heap.size 3 i0 (.int .i64 0) 8 Try.underlying22 hi hz0 hz1 hz2 rfl (.slice A7 (TL.length + [X].length) c7) (TL.length + [X].length) (TL.map (Value.int .i64) ++ [X].map (Value.int .i64)) rfl (own7) (.slice aD 0 cD) rfl .i64 (DL) (RD.out.keeps hHeld) (by unfold maxLen; (try simp only [List.length_cons, List.length_nil]); have := LT.out; have := LD.out; omega) (by (try simp only [List.length_cons, List.length_nil]); have := LT.out; have := LD.out; omega) (by have := hHeld.size; omega) ?_
                intro v11 w11 own11 g11
                obtain ⟨q11, k11⟩ := grown_lowI (own7) g11 hHeld (Nat.le_refl _)
                obtain ⟨A11, c11, rfl⟩ := own_form own11
                refine hK.out _ _ ?_ (fun hHeld => ?_)
                · exact q11
                clear hK Kont
                try simp only [Act.put, List.setIfInBounds_toArray, List.set_cons_zero, List.set_cons_succ]
                have FIN2 := FIN.out _ _ own11
                have e11 : TL.length + 1 + DL.length = (insW X r).length := by have h := FIN2.1; simpa using h
                have E11 := Lib.hid e11
                have R11 : Hid (RdI .i64 w11 (.slice A11 (insW X r).length c11) (insW X r)) := by have h := FIN2.2; rw [FIN2.1] at h; exact h
                clear own11 own7 own4 FIN2 e11
                refine takeL (i := 12) (v := ?_) rfl (by kernel_rfl) (by kernel_rfl) (by kernel_rfl) (fun _ _ _ h => h) (by rfl) ?_ (by assumption) ?_
                rotate_left
                · (intro w hSw; (try dsimp only at hSw); go_simp; (try with_reducible rfl))
                try simp only [Act.put, List.setIfInBounds_toArray, List.set_cons_zero, List.set_cons_succ]
                refine wpAnyH_done (by kernel_rfl) ?_ _
                go_wp2_with fail
                go_roundw
                case rel => exact ⟨insW X r, C + X, _, _, rfl, by rw [E11.out], R11, FS2, KQ.out.then hHeld⟩
                case measure => have h1 := E11.out; have h2 := insW_len X r; simp; omega

theorem r_free (v : Value) (l : List Int) (w : World) (hv : RdI .i64 w v l) (hn : l.length ≤ 1000000) :
    Calls Try.prog 23 #[v] w (RefFree w (if freeErr l = 0 then freeCost l else 0) (freeErr l)) := by
  cases hr : rightL l with
  | false =>
    have h := r_free_bad v l w hv hn (.inl hr)
    have e : freeErr l = 2 := by simp [freeErr, hr]
    rw [e] at h ⊢
    rw [if_neg (by decide)]
    exact h
  | true =>
    by_cases hu : 2 ≤ (usedL l).length
    · have e : freeErr l = 0 := by rw [freeErr, hr, if_pos rfl, if_pos (by omega)]
      rw [e, if_pos rfl]
      exact r_free_fine v l w hv hr hu
    · have h := r_free_bad v l w hv hn (.inr ⟨hr, by omega⟩)
      have e : freeErr l = 22 := by rw [freeErr, hr, if_pos rfl, if_neg (by omega)]
      rw [e] at h ⊢
      rw [if_neg (by decide)]
      exact h

end Go.Proofs.Ythjbngnihcmedaa
