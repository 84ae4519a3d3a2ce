/-
  Walks over the references of package limit: Least.
-/
import Derived.Test.YthjbngnihcmedaaO8
import Derived.Test.YthjbngnihcmedaaKT
namespace Go.Proofs.Ythjbngnihcmedaa
set_option linter.unusedVariables false
set_option linter.unusedSimpArgs false
set_option linter.unusedSectionVars false
open Go.RowKit

def LeastEnd (w : World) (c E : Int) (e : Ending) (w' : World) : Prop := e = .returned (.tuple #[.int .i64 c, .int .i64 E]) ∧ Keeps w w' []
theorem repL_zero {w : World} {g n : Nat} (hn : n ≤ 1000000) (h : w.heap[g]? = some (.cells (repL n 0 0).toArray 3 (0, 0))) : RowI w g n n (List.replicate n 0) := by
  refine ⟨List.length_replicate .., by simp, .inr ⟨g, n, _, rfl, Nat.zero_le _, h, Nat.le_refl _, by unfold maxLen; omega, by simp [repL], ?_⟩⟩
  simp [repL]
theorem rep_at {n j : Nat} {x : Int} (h : j < n) : (List.replicate n x)[j]? = some x := by rw [List.getElem?_replicate, if_pos h]
theorem set_at {L : List Int} {i j : Nat} {x : Int} (hi : i < L.length) : (L.set i x)[j]? = if i = j then some x else L[j]? := by
  by_cases h : i = j
  · subst h; rw [if_pos rfl, List.getElem?_set_self hi]
  · rw [if_neg h, List.getElem?_set_ne h]
/-- P / 2^n for a power of two. -/
theorem part_eq {m n : Nat} (hn : n ≤ m) : (((2 ^ m : Nat) : Int)) / 2 ^ n = ((2 ^ (m - n) : Nat) : Int) := by
  have h : (2 : Nat) ^ m = 2 ^ (m - n) * 2 ^ n := by rw [← Nat.pow_add]; congr 1; omega
  have h3 : (2 : Nat) ^ m / 2 ^ n = 2 ^ (m - n) := by rw [h, Nat.mul_div_cancel _ (Nat.two_pow_pos n)]
  have h4 : ((2 : Int) ^ n) = ((2 ^ n : Nat) : Int) := by simp
  rw [h4, ← h3]
  rfl

set_option maxRecDepth 100000 in
set_option maxHeartbeats 2000000 in
theorem r_least_arg (v : Value) (l : List Int) (m : Int) (w : World) (hv : RdI .i64 w v l) (hn : l.length ≤ 1000000) (h : rightL l = false ∨ m < 1 ∨ 11 < m) :
    Calls Try.prog 15 #[v, .int .i64 m] w (LeastEnd w 0 2) := by
  have R1 := Lib.hid (r_right v l w hv hn)
  obtain ⟨A0, n, cp0, rfl, hnl, -⟩ := hv.form
  clear hv hnl
  cases hr : rightL l with
  | false =>
    rw [hr] at R1
    clear h hr
    go_enter Try.func15, Try.ntmps15
    go_wp2_with (first | (go_at_call 11; refine R1.out.mono ?_; rintro e w' ⟨rfl, hw⟩; subst w'))
    go_ret2
    exact ⟨rfl, Keeps.refl _ _⟩
  | true =>
    rw [hr] at R1 h
    clear hr
    by_cases h1 : m < 1
    · clear h
      go_enter Try.func15, Try.ntmps15
      go_wp2_with (first | (go_at_call 11; refine R1.out.mono ?_; rintro e w' ⟨rfl, hw⟩; subst w'))
      go_ret2
      exact ⟨rfl, Keeps.refl _ _⟩
    · have d2 : decide (m < 1) = false := decide_eq_false h1
      have h3 : 11 < m := by
        rcases h with h | h | h
        · cases h
        · exact absurd h h1
        · exact h
      clear h
      go_enter Try.func15, Try.ntmps15
      go_wp2_with (first | (go_at_call 11; refine R1.out.mono ?_; rintro e w' ⟨rfl, hw⟩; subst w'))
      go_ret2
      exact ⟨rfl, Keeps.refl _ _⟩

set_option maxRecDepth 100000 in
set_option maxHeartbeats 2000000 in
theorem r_least_none (v : Value) (l : List Int) (m : Nat) (w : World) (hv : RdI .i64 w v l) (hr : rightL l = true) (hm1 : 1 ≤ m) (hm2 : m ≤ 11) (h : (usedL l).length < 2 ∨ 2 ≤ (usedL l).length ∧ 2 ^ m < (usedL l).length) :
    Calls Try.prog 15 #[v, .int .i64 (m : Int)] w (LeastEnd w 0 (if (usedL l).length < 2 then 22 else 18)) := by
  have hl := (rightL_iff.1 hr).1
  have R1 := Lib.hid (r_right v l w hv (by omega))
  have R2 := Lib.hid (r_used v l w hv (by omega))
  rw [hr] at R1
  obtain ⟨A0, n, cp0, rfl, hnl, -⟩ := hv.form
  have d2 : decide ((m : Int) < 1) = false := decide_eq_false (by omega)
  have d3 : decide (11 < (m : Int)) = false := decide_eq_false (by omega)
  have hm00 : (0 : Int) ≤ (m : Int) := Int.natCast_nonneg _
  have hm11 : (m : Int) ≤ 11 := by omega
  have HPW : Hid (wrap64 ((2 : Int) ^ m) = ((2 ^ m : Nat) : Int)) := (wrap_powK m (by omega)).1
  clear hv hnl hr hl
  generalize (usedL l).length = U at *
  rcases h with h | ⟨h1, h2⟩
  · rw [if_pos h]
    have hU : (U : Int) < 2 := by omega
    clear h HPW
    go_enter Try.func15, Try.ntmps15
    go_wp2_with (first | (go_at_call 11; refine R1.out.mono ?_; rintro e w' ⟨rfl, hw⟩; subst w') | (go_at_call 12; refine R2.out.mono ?_; rintro e w' ⟨rfl, hw⟩; subst w'))
    go_ret2
    exact ⟨rfl, Keeps.refl _ _⟩
  · rw [if_neg (by omega)]
    have hU : decide ((U : Int) < 2) = false := decide_eq_false (by omega)
    have hd : decide (wrap64 ((2 : Int) ^ m) < (U : Int)) = true := by rw [HPW.out]; exact decide_eq_true (by omega)
    clear h1 h2 HPW
    go_enter Try.func15, Try.ntmps15
    go_wp2_with (first | (go_at_call 11; refine R1.out.mono ?_; rintro e w' ⟨rfl, hw⟩; subst w') | (go_at_call 12; refine R2.out.mono ?_; rintro e w' ⟨rfl, hw⟩; subst w'))
    go_ret2
    exact ⟨rfl, Keeps.refl _ _⟩

set_option maxRecDepth 100000 in
set_option maxHeartbeats 16000000 in
theorem r_least_fine (v : Value) (l : List Int) (m : Nat) (w : World) (hv : RdI .i64 w v l) (hE : limErr l (m : Int) = 0) :
    Calls Try.prog 15 #[v, .int .i64 (m : Int)] w (LeastEnd w (costOut l (limOut l (m : Int))) 0) := by
  obtain ⟨hr, hm1, hm2, hu, hle⟩ := limErr_iff hE
  rw [Int.toNat_natCast] at hle
  have hm1' : 1 ≤ m := by omega
  have hm2' : m ≤ 11 := by omega
  obtain ⟨-, hO⟩ := limOut_best hr hm1' hu hle
  have hl := (rightL_iff.1 hr).1
  have R1 := Lib.hid (r_right v l w hv (by omega))
  have R2 := Lib.hid (r_used v l w hv (by omega))
  rw [hr] at R1
  obtain ⟨c, hc⟩ : ∃ c, c = costOut l (limOut l (m : Int)) := ⟨_, rfl⟩
  rw [← hc] at hO ⊢
  have HO := Lib.hid hO
  have HR := Lib.hid hr
  have HV := Lib.hid hv
  obtain ⟨A0, n, cp0, rfl, hnl, -⟩ := hv.form
  have HN := Lib.hid hnl
  have hn256 : n ≤ 256 := by omega
  have hl256 : l.length ≤ 256 := hl
  have d2 : decide ((m : Int) < 1) = false := decide_eq_false (by omega)
  have d3 : decide (11 < (m : Int)) = false := decide_eq_false (by omega)
  have hm00 : (0 : Int) ≤ (m : Int) := Int.natCast_nonneg _
  have hm11 : (m : Int) ≤ 11 := by omega
  obtain ⟨P, hP⟩ : ∃ P, P = 2 ^ m := ⟨_, rfl⟩
  have HP := Lib.hid hP
  have HPW : Hid (wrap64 ((2 : Int) ^ m) = (P : Int)) := by rw [hP]; exact (wrap_powK m (by omega)).1
  have hP2048 : P ≤ 2048 := by rw [hP]; exact (Nat.pow_le_pow_right (by decide) hm2' : 2 ^ m ≤ 2 ^ 11)
  rw [← hP] at hle
  generalize (usedL l).length = U at *
  have hU : decide ((U : Int) < 2) = false := decide_eq_false (by omega)
  have hd : decide (P < U) = false := decide_eq_false (by omega)
  have hmk : ∀ w, (Instr.makeSlice 22 (.int .i64 ((P : Int) + 1)) (.int .i64 ((P : Int) + 1))).run Try.prog w = .ok (.slice (some ⟨w.heap.size, 0, none⟩) (P + 1) (P + 1)) (w.alloc (.cells (repL (P + 1) 0 0).toArray 3)) := fun w => by
    have h := make_cells (P + 1) (by omega) w
    rw [show ((P + 1 : Nat) : Int) = (P : Int) + 1 by omega] at h
    exact h
  clear hv hnl hr hl hO hc hP hu hle hE
  go_enter Try.func15, Try.ntmps15
  go_wp2_with (first | (go_at_call 11; refine R1.out.mono ?_; rintro e w' ⟨rfl, hw⟩; subst w'))
  refine R2.out.mono ?_
  rintro e w' ⟨rfl, hw⟩
  subst w'
  go_wp2_with fail
  rw [HPW.out]
  refine R2.out.mono ?_
  rintro e w' ⟨rfl, hw⟩
  subst w'
  clear R1 R2 HPW
  go_wp2_with fail
  have hrow0 : Hid (RowI (w.alloc (.cells (repL (P + 1) 0 0).toArray 3)) w.heap.size (P + 1) (P + 1) (List.replicate (P + 1) 0)) := repL_zero (by omega) (heap_alloc_new w _)
  have hk0 : Keeps w (w.alloc (.cells (repL (P + 1) 0 0).toArray 3)) [] := (Keeps.refl w []).alloc _
  generalize (w.alloc (.cells (repL (P + 1) 0 0).toArray 3)) = w1 at *
  clear hd hU d2 d3
  go_loopw [8] (fun s8 wr => ∃ (i : Nat) (L : List Int), 1 ≤ i ∧ i ≤ P + 1 ∧ s8 = .int .i64 i ∧ Hid (RowI wr w.heap.size (P + 1) (P + 1) L) ∧ Hid (∀ j, j ≤ P → L[j]? = some (if j = 0 ∨ i ≤ j then 0 else -1)) ∧ Keeps w wr []) (fun s8 _ => P + 1 - (intOf s8).toNat)
  case atStart => exact ⟨1, _, Nat.le_refl _, by omega, rfl, hrow0, fun j hj => by rw [rep_at (by omega)]; congr 1; rw [if_pos (by omega)], hk0⟩
  case round =>
    obtain ⟨i, L, hi1, hi2, rfl, hL, hLj, kk⟩ := hrel
    clear hrow0 hk0
    by_cases hlt : i ≤ P
    · have c0 := hL.out.at (hLj.out i hlt)
      have f0 := hL.out.frozen i
      have hiP : (i : Int) ≤ (P : Int) := by omega
      have hi0 : (0 : Int) ≤ (i : Int) := Int.natCast_nonneg _
      have hiP1 : i < P + 1 := by omega
      have hiP2 : (i : Int) < (P : Int) + 1 := by omega
      go_wp2_with fail
      have NR : Hid (RowI (wr.setCell ⟨w.heap.size, i, none⟩ (.int .i64 (-1))) w.heap.size (P + 1) (P + 1) (L.set i (-1))) := hL.out.set i (-1)
      have NJ : Hid (∀ j, j ≤ P → (L.set i (-1))[j]? = some (if j = 0 ∨ i + 1 ≤ j then 0 else -1)) := fun j hj => by
        rw [set_at (by rw [hL.out.1]; omega)]
        by_cases h : i = j
        · rw [if_pos h, if_neg (by omega)]
        · rw [if_neg h, hLj.out j hj]
          congr 1
          by_cases h2 : j = 0 ∨ i ≤ j
          · rw [if_pos h2, if_pos (by omega)]
          · rw [if_neg h2, if_neg (by omega)]
      go_roundw
      case rel => exact ⟨i + 1, _, by omega, by omega, by go_num, NR, NJ, kk.setCell (.inl (Nat.le_refl _)) _⟩
      case measure => simp [intOf]; omega
    · obtain rfl : i = P + 1 := by omega
      have hB0 : Hid (∀ j, j ≤ P → ∃ b, L[j]? = some b ∧ Best m (posL (l.take 0)) j b) := fun j hj => by
        refine ⟨_, hLj.out j hj, ?_⟩
        have h := best_nil m j
        rw [show (if j = 0 ∨ P + 1 ≤ j then (0 : Int) else -1) = if j = 0 then 0 else -1 by
          by_cases h0 : j = 0
          · rw [if_pos h0, if_pos (by omega)]
          · rw [if_neg h0, if_neg (by omega)]]
        exact h
      have hcast : ((P + 1 : Nat) : Int) = (P : Int) + 1 := by omega
      clear hLj
      rw [hcast]
      clear hcast
      go_wp2_with fail
      go_loopw [7, 9] (fun s7 s9 wr => ∃ (k g : Nat) (L : List Int), k ≤ n ∧ s9 = .int .i64 k ∧ s7 = .slice (some ⟨g, 0, none⟩) (P + 1) (P + 1) ∧ Hid (RowI wr g (P + 1) (P + 1) L) ∧ Hid (∀ j, j ≤ P → ∃ b, L[j]? = some b ∧ Best m (posL (l.take k)) j b) ∧ w.heap.size ≤ g ∧ Keeps w wr []) (fun _ s9 _ => n - (intOf s9).toNat)
      case atStart => exact ⟨0, w.heap.size, L, Nat.zero_le _, rfl, rfl, hL, hB0, Nat.le_refl _, kk⟩
      case round =>
        obtain ⟨k, g, L, hk, rfl, rfl, hL, hB, hg, kk⟩ := hrel
        clear hB0 hlt hi1 hi2
        by_cases hlt : k < n
        · obtain ⟨x, hx⟩ : ∃ x, l[k]? = some x := ⟨_, List.getElem?_eq_getElem (by have := HN.out; omega)⟩
          have hxb := right_get HR.out hx
          obtain ⟨bl, ol, rfl, hbl, cl⟩ := (HV.out.keeps kk).at hx
          have hcapl := HV.out.cap
          have hkn : (k : Int) < (n : Int) := by omega
          have hk0 : (0 : Int) ≤ (k : Int) := Int.natCast_nonneg _
          have HTK : Hid (posL (l.take (k + 1)) = posL (l.take k) ++ if 0 < x then [x] else []) := by show _ = _; rw [take_next hx, posL_snoc]
          have HVB : Hid (∀ y ∈ posL (l.take k), 0 ≤ y ∧ y ≤ 2147483648) := fun y hy => (rightL_iff.1 HR.out).2 y (List.mem_of_mem_take (List.mem_filter.1 hy).1)
          have HVL : Hid ((posL (l.take k)).length ≤ 256) := by
            have := List.length_filter_le (fun x : Int => decide (0 < x)) (l.take k)
            show (posL (l.take k)).length ≤ 256
            unfold posL
            simp at this ⊢; omega
          have hx0 := hxb.1
          have hxb2 := hxb.2
          have HX := Lib.hid hx
          clear hx hxb
          by_cases h0 : x = 0
          · subst h0
            have HB2 : Hid (∀ j, j ≤ P → ∃ b, L[j]? = some b ∧ Best m (posL (l.take (k + 1))) j b) := fun j hj => by
              rw [HTK.out, if_neg (by decide), List.append_nil]; exact hB.out j hj
            go_wp2_with fail
            go_roundw
            case rel => exact ⟨k + 1, g, L, by omega, by go_num, rfl, hL, HB2, hg, kk⟩
            case measure => simp [intOf]; omega
          · have hx1 : (x == 0) = false := by simpa using h0
            obtain ⟨V, hV⟩ : ∃ V, V = posL (l.take k) := ⟨_, rfl⟩
            have hTK2 : posL (l.take (k + 1)) = V ++ [x] := by rw [HTK.out, if_pos (by omega), hV]
            rw [← hV] at hB HVB HVL
            have HTK2 := Lib.hid hTK2
            obtain ⟨wo, rfl⟩ : ∃ wo : World, wo = wr := ⟨_, rfl⟩
            clear hV hTK2 HTK
            go_wp2_with fail
            have hg2 : Hid (RowI (wo.alloc (.cells (repL (P + 1) 0 0).toArray 3)) wo.heap.size (P + 1) (P + 1) (List.replicate (P + 1) 0)) := repL_zero (by omega) (heap_alloc_new wo _)
            have hL2 : Hid (RowI (wo.alloc (.cells (repL (P + 1) 0 0).toArray 3)) g (P + 1) (P + 1) L) := hL.out.keeps ((Keeps.refl wo []).alloc _) (by simp)
            have kk2 : Keeps w (wo.alloc (.cells (repL (P + 1) 0 0).toArray 3)) [] := kk.alloc _
            have hgg : g ≠ wo.heap.size := Nat.ne_of_lt hL.out.lt
            have hgw : w.heap.size ≤ wo.heap.size := kk.size
            obtain ⟨G, hG⟩ : ∃ G, G = wo.heap.size := ⟨_, rfl⟩
            have hsz : (wo.alloc (.cells (repL (P + 1) 0 0).toArray 3)).heap.size = G + 1 := by rw [hG]; simp
            rw [← hG] at hg2 hgg hgw ⊢
            clear hL cl hsz
            generalize (wo.alloc (.cells (repL (P + 1) 0 0).toArray 3)) = w2 at *
            clear hG
            go_loopw [11] (fun s11 wr => ∃ (i : Nat) (L2 : List Int), i ≤ P + 1 ∧ s11 = .int .i64 i ∧ Hid (RowI wr G (P + 1) (P + 1) L2) ∧ Hid (RowI wr g (P + 1) (P + 1) L) ∧ Hid (∀ j, j < i → ∃ b, L2[j]? = some b ∧ Best m (V ++ [x]) j b) ∧ Hid (∃ q, Keeps w wr [] ∧ q = 0)) (fun s11 _ => P + 1 - (intOf s11).toNat)
            case atStart => exact ⟨0, _, Nat.zero_le _, rfl, hg2, hL2, fun j hj => by omega, ⟨0, kk2, rfl⟩⟩
            case round =>
              obtain ⟨i, L2, hi, rfl, hR2, hR1, hDone, hkq⟩ := hrel
              clear hg2 hL2 kk2
              obtain ⟨-, kq, -⟩ := hkq.out
              by_cases hlti : i ≤ P
              · obtain ⟨z, hz⟩ : ∃ z, L2[i]? = some z := ⟨_, List.getElem?_eq_getElem (by rw [hR2.out.1]; omega)⟩
                have c0 := hR2.out.at hz
                have f0 := hR2.out.frozen i
                have hiP : (i : Int) ≤ (P : Int) := by omega
                have hi0 : (0 : Int) ≤ (i : Int) := Int.natCast_nonneg _
                have hiP1 : i < P + 1 := by omega
                have hiP2 : (i : Int) < (P : Int) + 1 := by omega
                have hGw : G < wr.heap.size := hR2.out.lt
                clear hz
                go_wp2_with fail
                have NR : Hid (RowI (wr.setCell ⟨G, i, none⟩ (.int .i64 (-1))) G (P + 1) (P + 1) (L2.set i (-1))) := hR2.out.set i (-1)
                have NL : Hid (RowI (wr.setCell ⟨G, i, none⟩ (.int .i64 (-1))) g (P + 1) (P + 1) L) := hR1.out.keeps (S := [G]) ((Keeps.refl wr _).setCell (.inr (by simp)) _) (by simpa using hgg)
                have NK : Hid (Keeps w (wr.setCell ⟨G, i, none⟩ (.int .i64 (-1))) []) := kq.setCell (.inl hgw) _
                have hlen2 : Hid (L2.length = P + 1) := hR2.out.1
                have hup0 : Hid (BestUp m V x (1 - 1) i (-1)) := up_zero
                clear hR2 hR1 hkq kq c0 f0
                generalize (wr.setCell ⟨G, i, none⟩ (.int .i64 (-1))) = w3 at *
                go_loopw [12] (fun s12 wr => ∃ (q : Nat) (b : Int), 1 ≤ q ∧ q ≤ m + 1 ∧ s12 = .int .i64 q ∧ Hid (RowI wr G (P + 1) (P + 1) (L2.set i b)) ∧ Hid (RowI wr g (P + 1) (P + 1) L) ∧ Hid (BestUp m V x (q - 1) i b) ∧ Hid (Keeps w wr [])) (fun s12 _ => m + 1 - (intOf s12).toNat)
                case atStart => exact ⟨1, -1, Nat.le_refl _, by omega, rfl, NR, NL, hup0, NK⟩
                case round =>
                  obtain ⟨q, b, hq1, hq2, rfl, hR2, hR1, hU, kq⟩ := hrel
                  clear NR NL NK hup0
                  by_cases hqm : q ≤ m
                  · have hqmI : (q : Int) ≤ (m : Int) := by omega
                    have hq0 : (0 : Int) ≤ (q : Int) := Int.natCast_nonneg _
                    have hq11 : (q : Int) ≤ 11 := by omega
                    have hPART : Hid ((P : Int) / 2 ^ q = ((2 ^ (m - q) : Nat) : Int)) := by show _ = _; rw [HP.out]; exact part_eq hqm
                    obtain ⟨p, hp⟩ : ∃ p, q = p + 1 := ⟨q - 1, by omega⟩
                    have hU' : Hid (BestUp m V x p i b) := by have h := hU.out; rw [show q - 1 = p by omega] at h; exact h
                    have hbs := hU.out.sign
                    have HPQ := Lib.hid hp
                    clear hp
                    have FAR : Hid (i < 2 ^ (m - q) → BestUp m V x (q + 1 - 1) i b) := fun h => by
                      rw [show q + 1 - 1 = p + 1 by have := HPQ.out; omega]
                      exact up_far hU'.out (by rw [← HPQ.out]; exact h)
                    go_upto_region 26 with fail
                    rw [hPART.out]
                    obtain ⟨PN, hPN⟩ : ∃ PN, PN = 2 ^ (m - q) := ⟨_, rfl⟩
                    rw [← hPN] at FAR hPART ⊢
                    have HPN := Lib.hid hPN
                    clear hPN hPART
                    by_cases hfar : PN ≤ i
                    · have dF : decide (PN ≤ i) = true := decide_eq_true hfar
                      obtain ⟨b', hb', hBest⟩ := hB.out (i - PN) (by omega)
                      have c1 := hR1.out.at hb'
                      have e1 : IntKind.i64.wrap ((i : Int) - (PN : Int)) = ((i - PN : Nat) : Int) := by rw [IntWalk.i64_in _ (by omega)]; omega
                      have e2 : (i : Int) - (PN : Int) = ((i - PN : Nat) : Int) := by omega
                      have E2 := Lib.hid e2
                      have hbd := hBest.bd hm2' HVB.out
                      have hvl := HVL.out
                      have hj : i - PN + PN = i := by omega
                      have hjn : (i - PN) < P + 1 := by omega
                      have hjnI : ((i - PN : Nat) : Int) < (P : Int) + 1 := by omega
                      have hj0 : (0 : Int) ≤ ((i - PN : Nat) : Int) := Int.natCast_nonneg _
                      have NONE : Hid (b' < 0 → BestUp m V x (q + 1 - 1) i b) := fun h => by
                        rw [show q + 1 - 1 = p + 1 by have := HPQ.out; omega]
                        exact up_none hU'.out hBest (by rw [← HPQ.out, ← HPN.out]; exact hj) h
                      have TAKE : Hid (0 ≤ b' → ((b < 0 ∨ b' + x * (q : Int) < b) → BestUp m V x (q + 1 - 1) i (b' + x * (q : Int))) ∧ (¬ (b < 0 ∨ b' + x * (q : Int) < b) → BestUp m V x (q + 1 - 1) i b)) := fun h => by
                        rw [show q + 1 - 1 = p + 1 by have := HPQ.out; omega]
                        have h3 := up_take (L := p) (by have := HPQ.out; omega) hx0 hU'.out hBest (by rw [← HPQ.out, ← HPN.out]; exact hj) h
                        rw [← HPQ.out] at h3 ⊢
                        exact h3
                      have hbd1 : b' ≤ 6047313952768 := by omega
                      have hbd0 : -1 ≤ b' := hbd.1
                      have hm3 : 0 ≤ x * (q : Int) := Int.mul_nonneg hx0 hq0
                      have hm4 : x * (q : Int) ≤ 2147483648 * 11 := Int.mul_le_mul hxb2 hq11 hq0 (by decide)
                      have c3 := hR2.out.at (i := i) (x := b) (by rw [set_at (by have := hlen2.out; omega), if_pos rfl])
                      have f3 := hR2.out.frozen i
                      obtain ⟨bx, ox, hax, hbx, c4⟩ := (HV.out.keeps kq.out).at HX.out
                      obtain ⟨rfl, rfl⟩ : bl = bx ∧ ol = ox := by cases hax; exact ⟨rfl, rfl⟩
                      clear hb' hBest hbd hax E2 FAR hU hU'
                      by_cases hb0 : 0 ≤ b'
                      · have d0 : decide (0 ≤ b') = true := decide_eq_true hb0
                        have wm : IntKind.i64.wrap (x * (q : Int)) = x * (q : Int) := IntWalk.i64_in _ (by omega)
                        have wa : IntKind.i64.wrap (b' + x * (q : Int)) = b' + x * (q : Int) := IntWalk.i64_in _ (by omega)
                        obtain ⟨TK1, TK2⟩ := TAKE.out hb0
                        have HTK1 := Lib.hid TK1
                        have HTK2' := Lib.hid TK2
                        clear TK1 TK2 NONE TAKE
                        go_wp2_with fail
                        go_quiet (fail)
                        have KQ : Hid (Keeps w (wr.drewN nq) []) := kq.out.drewN nq
                        have QR2 : Hid (RowI (wr.drewN nq) G (P + 1) (P + 1) (L2.set i b)) := hR2.out.drewN nq
                        have QR1 : Hid (RowI (wr.drewN nq) g (P + 1) (P + 1) L) := hR1.out.drewN nq
                        have c3' := QR2.out.at (i := i) (x := b) (by rw [set_at (by have := hlen2.out; omega), if_pos rfl])
                        have f3' := QR2.out.frozen i
                        have hGw3 : G < (wr.drewN nq).heap.size := QR2.out.lt
                        clear c1 c3 c4 f3 wm wa kq hR2 hR1 e1
                        generalize wr.drewN nq = w4 at *
                        generalize b' + x * (q : Int) = C at *
                        have STORE : Hid ((b < 0 ∨ C < b) → RowI (w4.setCell ⟨G, i, none⟩ (.int .i64 C)) G (P + 1) (P + 1) (L2.set i C)) := fun _ => by
                          have h := QR2.out.set i C
                          rw [List.set_set] at h
                          exact h
                        have STL : Hid (RowI (w4.setCell ⟨G, i, none⟩ (.int .i64 C)) g (P + 1) (P + 1) L) := QR1.out.keeps (S := [G]) ((Keeps.refl w4 _).setCell (.inr (by simp)) _) (by simpa using hgg)
                        have STK : Hid (Keeps w (w4.setCell ⟨G, i, none⟩ (.int .i64 C)) []) := KQ.out.setCell (.inl hgw) _
                        by_cases hbn : b < 0
                        · have db : decide (b < 0) = true := decide_eq_true hbn
                          go_wp2_with fail
                          go_roundw
                          case rel => exact ⟨q + 1, C, by omega, by omega, by go_num, STORE.out (.inl hbn), STL, HTK1.out (.inl hbn), STK⟩
                          case measure => simp [intOf]; omega
                        · have db : decide (b < 0) = false := decide_eq_false hbn
                          by_cases hcb : C < b
                          · have dc : decide (C < b) = true := decide_eq_true hcb
                            go_wp2_with fail
                            go_roundw
                            case rel => exact ⟨q + 1, C, by omega, by omega, by go_num, STORE.out (.inr hcb), STL, HTK1.out (.inr hcb), STK⟩
                            case measure => simp [intOf]; omega
                          · have dc : decide (C < b) = false := decide_eq_false hcb
                            go_wp2_with fail
                            go_roundw
                            case rel => exact ⟨q + 1, b, by omega, by omega, by go_num, QR2, QR1, HTK2'.out (by omega), KQ⟩
                            case measure => simp [intOf]; omega
                      · have d0 : decide (0 ≤ b') = false := decide_eq_false hb0
                        have NX := Lib.hid (NONE.out (by omega))
                        clear NONE TAKE
                        go_wp2_with fail
                        go_roundw
                        case rel => exact ⟨q + 1, b, by omega, by omega, by go_num, hR2, hR1, NX, kq⟩
                        case measure => simp [intOf]; omega
                    · have dF : decide (PN ≤ i) = false := decide_eq_false hfar
                      have NX := Lib.hid (FAR.out (by omega))
                      clear FAR hU hU'
                      go_wp2_with fail
                      go_roundw
                      case rel => exact ⟨q + 1, b, by omega, by omega, by go_num, hR2, hR1, NX, kq⟩
                      case measure => simp [intOf]; omega
                  · obtain rfl : q = m + 1 := by omega
                    have hF : Hid (Best m (V ++ [x]) i b) := up_all (by have h := hU.out; rw [Nat.add_sub_cancel] at h; exact h)
                    have ND : Hid (∀ j, j < i + 1 → ∃ b', (L2.set i b)[j]? = some b' ∧ Best m (V ++ [x]) j b') := fun j hj => by
                      rw [set_at (by have := hlen2.out; omega)]
                      by_cases h : i = j
                      · subst h; rw [if_pos rfl]; exact ⟨b, rfl, hF.out⟩
                      · rw [if_neg h]; exact hDone.out j (by omega)
                    have hcast : ((m + 1 : Nat) : Int) = (m : Int) + 1 := by omega
                    rw [hcast]
                    clear hcast
                    go_wp2_with fail
                    go_roundw
                    case rel => exact ⟨i + 1, L2.set i b, by omega, by go_num, hR2, hR1, ND, ⟨0, kq.out, rfl⟩⟩
                    case measure => simp [intOf]; omega
              · obtain rfl : i = P + 1 := by omega
                have hcast : ((P + 1 : Nat) : Int) = (P : Int) + 1 := by omega
                have HB2 : Hid (∀ j, j ≤ P → ∃ b, L2[j]? = some b ∧ Best m (posL (l.take (k + 1))) j b) := fun j hj => by
                  rw [HTK2.out]; exact hDone.out j (by omega)
                rw [hcast]
                clear hcast
                go_wp2_with fail
                go_roundw
                case rel => exact ⟨k + 1, G, L2, by omega, by go_num, rfl, hR2, HB2, hgw, kq⟩
                case measure => simp [intOf]; omega
        · obtain rfl : k = n := by omega
          have HBF : Hid (∀ j, j ≤ 2 ^ m → ∃ b, L[j]? = some b ∧ Best m (wtsU l) j b) := fun j hj => by
            have h := hB.out j (by rw [HP.out]; exact hj)
            rw [List.take_of_length_le (by have := HN.out; omega)] at h
            rw [wtsU_eq]; exact h
          have FIN : Hid (∀ s, LeastUp L (P + 1) s → s = c) := fun s hs => least_opt HBF.out (by rw [← HP.out]; exact hs) HO.out
          have hl0 := Lib.hid (least_zero L)
          clear HBF hlt
          go_wp2_with fail
          go_loop [15, 16] (fun s15 s16 => ∃ (i : Nat) (s : Int), i ≤ P + 1 ∧ s16 = .int .i64 i ∧ s15 = .int .i64 s ∧ Hid (LeastUp L i s)) (fun _ s16 => P + 1 - (intOf s16).toNat)
          case atStart => exact ⟨0, -1, Nat.zero_le _, rfl, rfl, hl0⟩
          case round =>
            obtain ⟨i, s, hi, rfl, rfl, hS⟩ := hrel
            clear hl0
            by_cases hlti : i ≤ P
            · obtain ⟨b, hb⟩ : ∃ z, L[i]? = some z := ⟨_, List.getElem?_eq_getElem (by rw [hL.out.1]; omega)⟩
              have c0 := hL.out.at hb
              have hiP : (i : Int) ≤ (P : Int) := by omega
              have hi0 : (0 : Int) ≤ (i : Int) := Int.natCast_nonneg _
              have hiP1 : i < P + 1 := by omega
              have hiP2 : (i : Int) < (P : Int) + 1 := by omega
              have hss := hS.out.sign
              have TK : Hid (0 ≤ b → (s < 0 ∨ b < s) → LeastUp L (i + 1) b) := fun h1 h2 => least_take hS.out hb h1 h2
              have SK : Hid ((b < 0 ∨ (0 ≤ s ∧ s ≤ b)) → LeastUp L (i + 1) s) := fun h1 => least_skip hS.out hb h1
              clear hb hS
              by_cases hb0 : 0 ≤ b
              · have d0 : decide (0 ≤ b) = true := decide_eq_true hb0
                by_cases hs0 : s < 0
                · have ds : decide (s < 0) = true := decide_eq_true hs0
                  have NX := Lib.hid (TK.out hb0 (.inl hs0))
                  clear TK SK
                  go_wp2_with fail
                  go_round
                  case rel => exact ⟨i + 1, b, by omega, by go_num, rfl, NX⟩
                  case measure => simp [intOf]; omega
                · have ds : decide (s < 0) = false := decide_eq_false hs0
                  by_cases hbs : b < s
                  · have dbs : decide (b < s) = true := decide_eq_true hbs
                    have NX := Lib.hid (TK.out hb0 (.inr hbs))
                    clear TK SK
                    go_wp2_with fail
                    go_round
                    case rel => exact ⟨i + 1, b, by omega, by go_num, rfl, NX⟩
                    case measure => simp [intOf]; omega
                  · have dbs : decide (b < s) = false := decide_eq_false hbs
                    have NX := Lib.hid (SK.out (.inr ⟨by omega, by omega⟩))
                    clear TK SK
                    go_wp2_with fail
                    go_round
                    case rel => exact ⟨i + 1, s, by omega, by go_num, rfl, NX⟩
                    case measure => simp [intOf]; omega
              · have d0 : decide (0 ≤ b) = false := decide_eq_false hb0
                have NX := Lib.hid (SK.out (.inl (by omega)))
                clear TK SK
                go_wp2_with fail
                go_round
                case rel => exact ⟨i + 1, s, by omega, by go_num, rfl, NX⟩
                case measure => simp [intOf]; omega
            · obtain rfl : i = P + 1 := by omega
              have hsc := FIN.out s hS.out
              subst hsc
              have hcast : ((P + 1 : Nat) : Int) = (P : Int) + 1 := by omega
              rw [hcast]
              clear hcast
              go_wp2_with fail
              go_ret2
              exact ⟨rfl, kk⟩

end Go.Proofs.Ythjbngnihcmedaa
