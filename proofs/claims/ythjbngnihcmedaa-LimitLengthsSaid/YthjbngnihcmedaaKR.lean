/-
  The reference's Rising: its walk.
-/
import Derived.Test.YthjbngnihcmedaaKE
import Derived.Test.YthjbngnihcmedaaKP
namespace Go.Proofs.Ythjbngnihcmedaa
set_option linter.unusedVariables false
set_option linter.unusedSimpArgs false
open Go.RowKit

/-- The used symbols of a valid histogram, by rising counts; those of equal counts in their order. -/
def Rising (l Z : List Int) : Prop := if rightL l then EqF (keyC l) (usedL l) Z ∧ Srt (keyC l) Z else Z = []
theorem Rising.uniq {l Z Z' : List Int} (h : Rising l Z) (h' : Rising l Z') : Z = Z' := by
  unfold Rising at h h'
  split at h
  · rw [if_pos (by assumption)] at h'
    exact Srt.uniq h.2 h'.2 (h.1.symm.trans h'.1)
  · rw [if_neg (by assumption)] at h'
    rw [h, h']


theorem Try.infoPair : (Try.prog.info? 44).map (fun i => (i.zero, i.size, i.bytes)) = some (some (.agg #[.int .i64 0, .int .i64 0]), 2, 16) := by kernel_rfl

/-- Symbols with their counts. -/
def pairsC (l Z : List Int) : List (Int × Int) := Z.map fun s => (s, keyC l s)
theorem pairsC_len (l Z : List Int) : (pairsC l Z).length = Z.length := by simp [pairsC]
theorem pairsC_get {l Z : List Int} {i : Nat} {s : Int} (h : Z[i]? = some s) : (pairsC l Z)[i]? = some (s, keyC l s) := by simp [pairsC, h]
theorem pairsC_take (l Z : List Int) (k : Nat) : (pairsC l Z).take k = pairsC l (Z.take k) := by simp [pairsC, List.map_take]
theorem pairsC_drop (l Z : List Int) (k : Nat) : (pairsC l Z).drop k = pairsC l (Z.drop k) := by simp [pairsC, List.map_drop]

/-- How far Rising has come: the symbols below i. -/
def RisSt (l : List Int) (i : Nat) (Z : List Int) : Prop := EqF (keyC l) (usedL (l.take i)) Z ∧ Srt (keyC l) Z ∧ Z.length ≤ i
/-- .. and with one symbol: those from k on are greater. -/
def RisIn (l : List Int) (i k : Nat) (Z : List Int) : Prop := k ≤ Z.length ∧ InsSt (keyC l) Z (i : Int) (Z.take k) (Z.drop k)
theorem ris_start {l : List Int} {i : Nat} {Z : List Int} (h : RisSt l i Z) : RisIn l i Z.length Z := by
  refine ⟨Nat.le_refl _, ?_⟩
  rw [List.take_length, List.drop_length]
  exact ins_start h.2.1
theorem ris_step {l : List Int} {i k : Nat} {Z : List Int} {y : Int} (h : RisIn l i (k + 1) Z) (hy : Z[k]? = some y) (hlt : keyC l (i : Int) < keyC l y) : RisIn l i k Z := by
  obtain ⟨h1, h2⟩ := h
  obtain ⟨hl, e⟩ := List.getElem?_eq_some_iff.1 hy
  refine ⟨by omega, ?_⟩
  rw [List.drop_eq_getElem_cons hl, e]
  rw [List.take_add_one, hy] at h2
  exact ins_step h2 hlt
theorem ris_end {l : List Int} {i k : Nat} {Z : List Int} {x : Int} (hs : RisSt l i Z) (hx : l[i]? = some x) (hx0 : 0 < x) (h : RisIn l i k Z) (hk : k = 0 ∨ ∃ y, Z[k - 1]? = some y ∧ keyC l y ≤ keyC l (i : Int)) : RisSt l (i + 1) (Z.take k ++ (i : Int) :: Z.drop k) := by
  obtain ⟨h1, h2⟩ := h
  obtain ⟨s1, s2, s3⟩ := hs
  refine ⟨?_, ?_, ?_⟩
  · rw [take_next hx, usedL_snoc, if_pos hx0]
    have hli : (l.take i).length = i := by have := (List.getElem?_eq_some_iff.1 hx).1; simp; omega
    rw [hli]
    exact (s1.append (EqF.refl _)).trans h2.1
  · rcases hk with rfl | ⟨y, hy, hle⟩
    · exact ins_end0 h2
    · cases k with
      | zero => exact ins_end0 h2
      | succ k =>
        rw [Nat.add_sub_cancel] at hy
        rw [List.take_add_one, hy] at h2 ⊢
        exact ins_end h2 hle
  · simp; omega
theorem ris_skip {l : List Int} {i : Nat} {Z : List Int} {x : Int} (hs : RisSt l i Z) (hx : l[i]? = some x) (hx0 : ¬ 0 < x) : RisSt l (i + 1) Z := by
  obtain ⟨s1, s2, s3⟩ := hs
  refine ⟨?_, s2, by omega⟩
  rw [take_next hx, usedL_snoc, if_neg hx0, List.append_nil]
  exact s1
theorem ris_mem {l : List Int} {i : Nat} {Z : List Int} (hs : RisSt l i Z) : ∀ s ∈ Z, ∃ j : Nat, s = (j : Int) ∧ j < l.length := fun s h => by
  obtain ⟨j, h1, x, h2, -⟩ := usedL_mem (hs.1.mem.2 h)
  have := (List.getElem?_eq_some_iff.1 h2).1
  simp at this
  exact ⟨j, h1, by omega⟩

theorem holdS1 {w w' : World} {a : Addr} {c : Value} (hc : w.cell? a = some c) (hl : a.block < w.heap.size) (kk : Keeps w w' []) : w'.cell? a = some c ∧ Keeps w w' [] := ⟨(kk.cell hl (by simp)).trans hc, kk⟩
theorem grown_lowR {W w w' : World} {v : Value} {n size base : Nat} {e : TypeId} {xs : List Value} (hown : w.ownsRow base e size v n xs) (hg : w.grownBy w' v.ownBlock) (kW : Keeps W w []) (hb : W.heap.size ≤ base) : Keeps W w' [] ∧ Keeps w w' v.ownBlock.toList := by
  have k := Keeps.of_grown (S := v.ownBlock.toList) hg (fun j hj => by simpa using hj)
  exact ⟨kW.trans k (fun x hx hlt => by have := (hown.lt x (by simpa using hx)).1; omega), k⟩
theorem own_build0R (w : World) (e : TypeId) (size : Nat) : (w.alloc (.cells #[] e)).ownsRow w.heap.size e size (.slice (some ⟨w.heap.size, 0, none⟩) 0 0) 0 [] :=
  ⟨by simp, .inr ⟨_, 0, #[], rfl, Nat.le_refl _, heap_alloc_new w _, Nat.le_refl _, by simp, by simp, by simp⟩⟩

/-- How Rising ends. -/
def RisEnd (w : World) (l : List Int) (e : Ending) (w' : World) : Prop :=
  ∃ v Z, e = .returned v ∧ RdP w' v (pairsC l Z) ∧ Rising l Z ∧ (∀ ad n c, v = .slice (some ad) n c → w.heap.size ≤ ad.block) ∧ Keeps w w' []

theorem pairs_built {l Z : List Int} {k i : Nat} {x : Int} (hx : l[i]? = some x) : cells2 ((pairsC l Z).take k) ++ cells2 [((i : Int), x)] ++ cells2 ((pairsC l Z).drop k) = cells2 (pairsC l (Z.take k ++ (i : Int) :: Z.drop k)) := by
  rw [← cells2_append, ← cells2_append, pairsC_take, pairsC_drop]
  congr 1
  simp [pairsC, keyC_at hx]

set_option maxRecDepth 100000 in
set_option maxHeartbeats 8000000 in
theorem rising_any (v : Value) (l : List Int) (w : World) (hv : RdI .i64 w v l) (hn : l.length ≤ 1000000) :
    Calls Try.prog 25 #[v] w (RisEnd w l) := by
  have HG := Lib.hid (r_right v l w hv hn)
  obtain ⟨A0, n, cp0, rfl, hnl, -⟩ := hv.form
  obtain ⟨i0, hi, hz0, hz1, hz2⟩ := info_parts Try.infoPair
  cases hr : rightL l with
  | false =>
    have HR := Lib.hid hr
    rw [hr] at HG
    clear hv hnl hr
    go_enter Try.func25, Try.ntmps25
    go_wp2_with (go_at_call 11; refine HG.out.mono ?_; rintro e w' ⟨rfl, hw⟩; obtain rfl := hw.symm)
    go_ret
    exact ⟨_, [], rfl, RdP.nil, by simp [Rising, HR.out], fun ad n c h => by (cases h), Keeps.refl _ []⟩
  | true =>
    have HR := Lib.hid hr
    have HB := Lib.hid (rightL_iff.1 hr).2
    have hn256 : n ≤ 256 := by have := (rightL_iff.1 hr).1; omega
    have HV := Lib.hid hv
    have HN := Lib.hid hnl
    rw [hr] at HG
    clear hv hnl hr hn
    go_enter Try.func25, Try.ntmps25
    go_wp2_with (go_at_call 11; refine HG.out.mono ?_; rintro e w' ⟨rfl, hw⟩; obtain rfl := hw.symm)
    go_loopw [3, 4] (fun s3 s4 wr => ∃ (i : Nat) (Z : List Int) (ad : Option Addr) (c : Nat), i ≤ n ∧ s4 = .int .i64 i ∧ s3 = .slice ad Z.length c ∧ Z.length ≤ 256 ∧ Hid (RisSt l i Z) ∧ Hid (RdP wr (.slice ad Z.length c) (pairsC l Z)) ∧ Hid (∀ a, ad = some a → w.heap.size ≤ a.block) ∧ Keeps w wr []) (fun _ s4 _ => n - (intOf s4).toNat)
    case atStart => exact ⟨0, [], none, 0, Nat.zero_le _, rfl, rfl, by simp, ⟨by simp [usedL, usedF]; exact EqF.refl _, Srt.nil, Nat.le_refl _⟩, RdP.nil, (fun a h => by cases h), Keeps.refl _ []⟩
    case round =>
      obtain ⟨i, Z, ad, c, hin, rfl, rfl, hZl, hS, hP, hA, kr⟩ := hrel
      obtain ⟨wo, rfl⟩ : ∃ wo : World, wo = wr := ⟨_, rfl⟩
      by_cases hlt : i < n
      · obtain ⟨x, hx⟩ : ∃ x, l[i]? = some x := ⟨_, List.getElem?_eq_getElem (by have := HN.out; omega)⟩
        obtain ⟨b, o, rfl, hb, hc0⟩ := HV.out.at hx
        have hcap0 := HV.out.cap
        have hxb := HB.out x (List.mem_of_getElem? hx)
        have hc1 := (kr.cell (p := ⟨b, o + i, none⟩) hb (by simp)).trans hc0
        have hli : (i : Int) < (n : Int) := by omega
        have hiI : (0 : Int) ≤ (i : Int) := Int.natCast_nonneg _
        have HX := Lib.hid hx
        have hxb1 := hxb.1
        have hxb2 := hxb.2
        clear hx hxb
        by_cases hx0 : 0 < x
        · have hx1 : (x == 0) = false := by simp; omega
          have hSi := Lib.hid (ris_start hS.out)
          have hkx : Hid (keyC l (i : Int) = x) := keyC_at HX.out
          go_wp2_with fail
          go_loopw [5] (fun s5 wr => ∃ (k q : Nat), s5 = .int .i64 k ∧ Hid (RisIn l i k Z) ∧ k ≤ Z.length ∧ wr = wo.drewN q) (fun s5 _ => (intOf s5).toNat)
          case atStart => exact ⟨Z.length, 0, rfl, hSi, Nat.le_refl _, rfl⟩
          case round =>
            obtain ⟨k, q, rfl, hI, hkZ, rfl⟩ := hrel
            have kq := (Keeps.refl wo []).drewN q
            have TAIL : Hid ((k = 0 ∨ ∃ y, Z[k - 1]? = some y ∧ keyC l y ≤ keyC l (i : Int)) → RisSt l (i + 1) (Z.take k ++ (i : Int) :: Z.drop k)) := fun h => ris_end hS.out HX.out hx0 hI.out h
            have FIN : Hid (∀ (w' : World) (v' : Value), w'.ownsRow wo.heap.size 44 2 v' (((pairsC l Z).take k).length + [((i : Int), x)].length + ((pairsC l Z).drop k).length) (cells2 ((pairsC l Z).take k) ++ cells2 [((i : Int), x)] ++ cells2 ((pairsC l Z).drop k)) →
                ∃ ad c, v' = .slice ad (Z.take k ++ (i : Int) :: Z.drop k).length c ∧ RdP w' v' (pairsC l (Z.take k ++ (i : Int) :: Z.drop k)) ∧ ∀ a, ad = some a → w.heap.size ≤ a.block) := fun w' v' h => by
              rw [pairs_built HX.out] at h
              have e : ((pairsC l Z).take k).length + [((i : Int), x)].length + ((pairsC l Z).drop k).length = (pairsC l (Z.take k ++ (i : Int) :: Z.drop k)).length := by simp [pairsC]; omega
              rw [e] at h
              obtain ⟨ad', c', rfl⟩ := own2_form h
              refine ⟨ad', c', by rw [pairsC_len], own2_reads h, fun a ha => ?_⟩
              subst ha
              have := (h.lt a.block rfl).1
              have := kr.size
              omega
            have PRE := Lib.hid (slice_preP (P := Try.prog) Try.underlying42 hi hz1 hP.out hkZ)
            have POST := Lib.hid (slice_postP (P := Try.prog) Try.underlying42 hi hz1 hP.out hkZ)
            obtain ⟨a1, c1, hpre, rpre⟩ := PRE.out
            obtain ⟨a2, c2, hpost, rpost⟩ := POST.out
            have RPRE := Lib.hid rpre
            have RPOST := Lib.hid rpost
            have HPRE := Lib.hid hpre
            have HPOST := Lib.hid hpost
            clear rpre rpost PRE POST hpre hpost
            have hkI : (0 : Int) ≤ (k : Int) := Int.natCast_nonneg _
            have hx1' := hx1
            have lT : ((pairsC l Z).take k).length = k := by simp [pairsC]; omega
            have lD : ((pairsC l Z).drop k).length = Z.length - k := by simp [pairsC]
            have LT := Lib.hid lT
            have LD := Lib.hid lD
            clear lT lD
            cases k with
            | succ k =>
              obtain ⟨y, hy⟩ : ∃ y, Z[k]? = some y := ⟨_, List.getElem?_eq_getElem (by omega)⟩
              obtain ⟨b2, o2, rfl, hb2, p1, p2⟩ := hP.out.at (pairsC_get (l := l) hy)
              obtain ⟨j, rfl, hj⟩ := ris_mem hS.out y (List.mem_of_getElem? hy)
              obtain ⟨z, hz⟩ : ∃ z, l[j]? = some z := ⟨_, List.getElem?_eq_getElem hj⟩
              rw [keyC_at hz] at p2
              dsimp only at p1 p2
              have hky : Hid (keyC l (j : Int) = z) := keyC_at hz
              have HY := Lib.hid hy
              have hcapP := hP.out.cap
              have hkk : k < Z.length := by omega
              have hkk2 : (k : Int) < (Z.length : Int) := by omega
              have zk : ((k : Int) + 1) - 1 = (k : Int) := by omega
              have sk : IntKind.i64.wrap ((k : Int) + 1 - 1) = (k : Int) := by rw [zk]; exact IntWalk.i64_in _ (by omega)
              have hk0 : (0 : Int) < (k : Int) + 1 := by omega
              have hk00 : (0 : Int) ≤ (k : Int) := Int.natCast_nonneg _
              have hstep : Hid (x < z → RisIn l i k Z) := fun h => ris_step hI.out HY.out (by rw [hkx.out, hky.out]; exact h)
              have hstop : Hid (z ≤ x → RisSt l (i + 1) (Z.take (k + 1) ++ (i : Int) :: Z.drop (k + 1))) := fun h => TAIL.out (.inr ⟨_, by rw [Nat.add_sub_cancel]; exact HY.out, by rw [hkx.out, hky.out]; exact h⟩)
              clear hy hz hj
              go_wp2_with fail
              go_quiet (fail)
              rcases Int.lt_or_le x z with hxz | hxz
              · have hd : decide (x < z) = true := decide_eq_true hxz
                have hI2 := Lib.hid (hstep.out hxz)
                go_wp2_with fail
                go_roundw
                case rel => exact ⟨k, q + nq, by first | rfl | go_num, hI2, by omega, by first | rfl | (rw [World.drewN_drewN]) | simp⟩
                case measure => simp [intOf] <;> omega
              · have hd : decide (x < z) = false := decide_eq_false (by omega)
                have hnd : ¬ x < z := by omega
                have S2 := Lib.hid (hstop.out hxz)
                have kW : Keeps wo ((wo.drewN q).drewN nq) [] := kq.drewN nq
                generalize ((wo.drewN q).drewN nq) = W0 at *
                have hpre : ∀ w', (Instr.slice 42 (.slice (some ⟨b2, o2, none⟩) Z.length c) none (some (.int .i64 ((k : Int) + 1))) none).run Try.prog w' = .ok (.slice a1 (k + 1) c1) w' := fun w' => by have h := HPRE.out w'; first | exact h | (rw [show ((k + 1 : Nat) : Int) = (k : Int) + 1 by omega] at h; exact h)
                have hpost : ∀ w', (Instr.slice 42 (.slice (some ⟨b2, o2, none⟩) Z.length c) (some (.int .i64 ((k : Int) + 1))) none none).run Try.prog w' = .ok (.slice a2 (Z.length - (k + 1)) c2) w' := fun w' => by have h := HPOST.out w'; first | exact h | (rw [show ((k + 1 : Nat) : Int) = (k : Int) + 1 by omega] at h; exact h)
                obtain ⟨TL, hTL⟩ : ∃ T, T = (pairsC l Z).take (k + 1) := ⟨_, rfl⟩
                obtain ⟨DL, hDL⟩ : ∃ T, T = (pairsC l Z).drop (k + 1) := ⟨_, rfl⟩
                rw [← hTL] at RPRE LT
                rw [← hDL] at RPOST LD
                rw [← hTL, ← hDL] at FIN
                clear hTL hDL
                have hbW : b < W0.heap.size := by have := kr.size; have := kW.size; omega
                have cW := (kW.cell (p := ⟨b, o + i, none⟩) (Nat.lt_of_lt_of_le hb kr.size) (by simp)).trans hc1
                go_wp2_with fail
                refine wp_region_held_drew (S := (fun w' => w'.cell? ⟨b, o + i, none⟩ = some (.int .i64 x) ∧ Keeps W0 w' [])) (by kernel_rfl) (holdS1 cW hbW (Keeps.refl W0 []).drew) (fun hHeld => ?_)
                refine takeL (i := 1) (v := ?_) rfl (by kernel_rfl) (by kernel_rfl) (by kernel_rfl) (fun _ _ _ h => h) (by rfl) ?_ (by assumption) ?_
                rotate_left
                · (intro w hSw; (try dsimp only at hSw); go_simp; (try with_reducible rfl))
                try simp only [Act.put, List.setIfInBounds_toArray, List.set_cons_zero, List.set_cons_succ]
                refine takeL (i := 2) (v := ?_) rfl (by kernel_rfl) (by kernel_rfl) (by kernel_rfl) (fun _ _ _ h => h) (by rfl) ?_ (by assumption) ?_
                rotate_left
                · (intro w hSw; (try dsimp only at hSw); go_simp; (try with_reducible rfl))
                try simp only [Act.put, List.setIfInBounds_toArray, List.set_cons_zero, List.set_cons_succ]
                refine takeL (i := 3) (v := ?_) rfl (by kernel_rfl) (by kernel_rfl) (by kernel_rfl) (fun _ _ _ h => h) (by rfl) ?_ (by assumption) ?_
                rotate_left
                · (intro w hSw; (try dsimp only at hSw); go_simp; (try with_reducible rfl))
                try simp only [Act.put, List.setIfInBounds_toArray, List.set_cons_zero, List.set_cons_succ]
                refine takeL (i := 5) (v := ?_) rfl (by kernel_rfl) (by kernel_rfl) (by kernel_rfl) (fun _ _ _ h => h) (by rfl) ?_ (by assumption) ?_
                rotate_left
                · (intro w hSw; (try dsimp only at hSw); go_simp; (try with_reducible rfl))
                try simp only [Act.put, List.setIfInBounds_toArray, List.set_cons_zero, List.set_cons_succ]
                refine takeL (i := 6) (v := ?_) rfl (by kernel_rfl) (by kernel_rfl) (by kernel_rfl) (fun _ _ _ h => h) (by rfl) ?_ (by assumption) ?_
                rotate_left
                · (intro w hSw; (try dsimp only at hSw); go_simp; (try with_reducible rfl))
                try simp only [Act.put, List.setIfInBounds_toArray, List.set_cons_zero, List.set_cons_succ]
                refine takeL (i := 7) (v := ?_) rfl (by kernel_rfl) (by kernel_rfl) (by kernel_rfl) (fun _ _ _ h => h) (by rfl) ?_ (by assumption) ?_
                rotate_left
                · (intro w hSw; (try dsimp only at hSw); go_simp; (try with_reducible rfl))
                try simp only [Act.put, List.setIfInBounds_toArray, List.set_cons_zero, List.set_cons_succ]
                refine takeL (i := 8) (v := ?_) rfl (by kernel_rfl) (by kernel_rfl) (by kernel_rfl) (fun _ _ _ h => h) (by rfl) ?_ (by assumption) ?_
                rotate_left
                · (intro w hSw; (try dsimp only at hSw); go_simp; (try with_reducible rfl))
                try simp only [Act.put, List.setIfInBounds_toArray, List.set_cons_zero, List.set_cons_succ]
                refine takeL (i := 9) (v := ?_) rfl (by kernel_rfl) (by kernel_rfl) (by kernel_rfl) (fun _ _ _ h => h) (by rfl) ?_ (by assumption) ?_
                rotate_left
                · (intro w hSw; (try dsimp only at hSw); go_simp; (try with_reducible rfl))
                try simp only [Act.put, List.setIfInBounds_toArray, List.set_cons_zero, List.set_cons_succ]
                refine takeL (i := 10) (v := ?_) rfl (by kernel_rfl) (by kernel_rfl) (by kernel_rfl) (fun _ _ _ h => h) (by rfl) ?_ (by assumption) ?_
                rotate_left
                · (intro w hSw; (try dsimp only at hSw); go_simp; (try with_reducible rfl))
                try simp only [Act.put, List.setIfInBounds_toArray, List.set_cons_zero, List.set_cons_succ]
                refine takeL (i := 13) (v := ?_) rfl (by kernel_rfl) (by kernel_rfl) (by kernel_rfl) (fun _ _ _ h => h) (by rfl) ?_ (by assumption) ?_
                rotate_left
                · (intro w hSw; (try dsimp only at hSw); go_simp; (try with_reducible rfl))
                try simp only [Act.put, List.setIfInBounds_toArray, List.set_cons_zero, List.set_cons_succ]
                refine takeL (i := 14) (v := ?_) rfl (by kernel_rfl) (by kernel_rfl) (by kernel_rfl) (fun _ _ _ h => h) (by rfl) ?_ (by assumption) ?_
                rotate_left
                · (intro w hSw; (try dsimp only at hSw); go_simp; (try with_reducible rfl))
                try simp only [Act.put, List.setIfInBounds_toArray, List.set_cons_zero, List.set_cons_succ]
                refine takeL (i := 15) (v := ?_) rfl (by kernel_rfl) (by kernel_rfl) (by kernel_rfl) (fun _ _ _ h => h) (by rfl) ?_ (by assumption) ?_
                rotate_left
                · (intro w hSw; (try dsimp only at hSw); go_simp; (try with_reducible rfl))
                try simp only [Act.put, List.setIfInBounds_toArray, List.set_cons_zero, List.set_cons_succ]
                refine call2L (i := 0) (j := 11) rfl rfl (by kernel_rfl) (fun Kont hK => ?_) (fun Kont hK => ?_)
                · go_simp
                  refine hK.out _ _ ?_ (fun hHeld => ?_)
                  · exact holdS1 cW hbW (hHeld.2.alloc _)
                  clear hK Kont
                  have OB2 : Hid ((W0.drew.alloc (.cells #[] 44)).ownsRow W0.heap.size 44 2 (.slice (some ⟨W0.heap.size, 0, none⟩) 0 0) 0 []) := by have h := own_build0R (W0.drew) 44 2; first | exact own_base h (Nat.le_refl _) | (rw [World.size_alloc] at h; exact own_base h (Nat.le_succ _))
                  refine call2L (i := 4) (j := 11) rfl rfl (by kernel_rfl) (fun Kont hK => ?_) (fun Kont hK => ?_)
                  · refine step_appendP rfl (.tmp 40) (.tmp 43) 42 rfl W0.heap.size 44 i0 (.agg #[.int .i64 0, .int .i64 0]) 16 Try.underlying42 hi hz0 hz1 hz2 rfl ((.slice (some ⟨W0.heap.size, 0, none⟩) 0 0)) (0) ([]) rfl (OB2.out) (.slice a1 (k + 1) c1) rfl (TL) (RPRE.out.keep (kW.then hHeld.2)) (by unfold maxLen; (try simp only [List.length_cons, List.length_nil]); have := LT.out; have := LD.out; omega) (by (try simp only [List.length_cons, List.length_nil]); have := LT.out; have := LD.out; omega) hHeld.2.size ?_
                    intro v4 w4 own4 g4
                    obtain ⟨q4, k4⟩ := grown_lowR (OB2.out) g4 hHeld.2 (Nat.le_refl _)
                    rw [Nat.zero_add, List.nil_append] at own4
                    obtain ⟨A4, c4, rfl⟩ := own2_form own4
                    refine hK.out _ _ ?_ (fun hHeld => ?_)
                    · exact holdS1 cW hbW q4
                    clear hK Kont
                    try simp only [Act.put, List.setIfInBounds_toArray, List.set_cons_zero, List.set_cons_succ]
                    refine callL (i := 11) rfl (by kernel_rfl) (fun Kont hK => ?_)
                    go_simp
                    refine hK.out _ _ ?_ (fun hHeld => ?_)
                    · exact holdS1 cW hbW (hHeld.2.alloc _)
                    clear hK Kont
                    have BP : Hid (Blk (w4.alloc (.cells #[.int .i64 (i : Int), .int .i64 x] 44)) (w4.heap.size) #[.int .i64 (i : Int), .int .i64 x] 44) := by have h := Blk.new (w4) #[.int .i64 (i : Int), .int .i64 x] 44; first | exact h | (rw [World.size_alloc] at h; exact h)
                    replace own4 := own2_keeps own4 ((Keeps.refl _ []).alloc (.cells #[.int .i64 (i : Int), .int .i64 x] 44))
                    refine callL (i := 12) rfl (by kernel_rfl) (fun Kont hK => ?_)
                    refine step_appendP rfl (.tmp 44) (.tmp 51) 42 rfl W0.heap.size 44 i0 (.agg #[.int .i64 0, .int .i64 0]) 16 Try.underlying42 hi hz0 hz1 hz2 rfl ((.slice A4 TL.length c4)) (TL.length) (cells2 TL) rfl (own4) (.slice (some ⟨w4.heap.size, 0, none⟩) 1 1) rfl ([((i : Int), x)]) (RdP.one BP.out) (by unfold maxLen; (try simp only [List.length_cons, List.length_nil]); have := LT.out; have := LD.out; omega) (by (try simp only [List.length_cons, List.length_nil]); have := LT.out; have := LD.out; omega) hHeld.2.size ?_
                    intro v12 w12 own12 g12
                    obtain ⟨q12, k12⟩ := grown_lowR (own4) g12 hHeld.2 (Nat.le_refl _)
                    obtain ⟨A12, c12, rfl⟩ := own2_form own12
                    refine hK.out _ _ ?_ (fun hHeld => ?_)
                    · exact holdS1 cW hbW q12
                    clear hK Kont
                    try simp only [Act.put, List.setIfInBounds_toArray, List.set_cons_zero, List.set_cons_succ]
                    refine callL (i := 16) rfl (by kernel_rfl) (fun Kont hK => ?_)
                    refine step_appendP rfl (.tmp 52) (.tmp 55) 42 rfl W0.heap.size 44 i0 (.agg #[.int .i64 0, .int .i64 0]) 16 Try.underlying42 hi hz0 hz1 hz2 rfl ((.slice A12 (TL.length + [((i : Int), x)].length) c12)) (TL.length + [((i : Int), x)].length) (cells2 TL ++ cells2 [((i : Int), x)]) rfl (own12) (.slice a2 (Z.length - (k + 1)) c2) rfl (DL) (RPOST.out.keep (kW.then hHeld.2)) (by unfold maxLen; (try simp only [List.length_cons, List.length_nil]); have := LT.out; have := LD.out; omega) (by (try simp only [List.length_cons, List.length_nil]); have := LT.out; have := LD.out; omega) hHeld.2.size ?_
                    intro v16 w16 own16 g16
                    obtain ⟨q16, k16⟩ := grown_lowR (own12) g16 hHeld.2 (Nat.le_refl _)
                    obtain ⟨ad', c', rfl, rp, hA'⟩ := FIN.out w16 _ (own_base own16 kW.size)
                    have RP := Lib.hid rp
                    clear rp own16 own12 own4
                    refine hK.out _ _ ?_ (fun hHeld => ?_)
                    · exact holdS1 cW hbW q16
                    clear hK Kont
                    try simp only [Act.put, List.setIfInBounds_toArray, List.set_cons_zero, List.set_cons_succ]
                    refine takeL (i := 17) (v := ?_) rfl (by kernel_rfl) (by kernel_rfl) (by kernel_rfl) (fun _ _ _ h => h) (by rfl) ?_ (by assumption) ?_
                    rotate_left
                    · (intro w hSw; (try dsimp only at hSw); go_simp; (try with_reducible rfl))
                    try simp only [Act.put, List.setIfInBounds_toArray, List.set_cons_zero, List.set_cons_succ]
                    refine wpAnyH_done (by kernel_rfl) ?_ _
                    go_wp2_with fail
                    go_roundw
                    case rel => exact ⟨i + 1, Z.take (k + 1) ++ (i : Int) :: Z.drop (k + 1), ad', c', by omega, by go_num, by first | rfl | (rw [List.length_append, List.length_cons, List.length_take, List.length_drop, Nat.min_eq_left (by omega)]), by have := S2.out.2.2; omega, S2, RP, hA', kr.then (kW.then hHeld.2)⟩
                    case measure => simp [intOf]; omega
                  · go_simp
                    refine hK.out _ _ ?_ (fun hHeld => ?_)
                    · exact holdS1 cW hbW (hHeld.2.alloc _)
                    clear hK Kont
                    have BP : Hid (Blk ((W0.drew.alloc (.cells #[] 44)).alloc (.cells #[.int .i64 (i : Int), .int .i64 x] 44)) (W0.heap.size + 1) #[.int .i64 (i : Int), .int .i64 x] 44) := by have h := Blk.new ((W0.drew.alloc (.cells #[] 44))) #[.int .i64 (i : Int), .int .i64 x] 44; first | exact h | (rw [World.size_alloc] at h; exact h)
                    replace OB2 := Lib.hid (own2_keeps OB2.out ((Keeps.refl _ []).alloc (.cells #[.int .i64 (i : Int), .int .i64 x] 44)))
                    refine callL (i := 4) rfl (by kernel_rfl) (fun Kont hK => ?_)
                    refine step_appendP rfl (.tmp 40) (.tmp 43) 42 rfl W0.heap.size 44 i0 (.agg #[.int .i64 0, .int .i64 0]) 16 Try.underlying42 hi hz0 hz1 hz2 rfl ((.slice (some ⟨W0.heap.size, 0, none⟩) 0 0)) (0) ([]) rfl (OB2.out) (.slice a1 (k + 1) c1) rfl (TL) (RPRE.out.keep (kW.then hHeld.2)) (by unfold maxLen; (try simp only [List.length_cons, List.length_nil]); have := LT.out; have := LD.out; omega) (by (try simp only [List.length_cons, List.length_nil]); have := LT.out; have := LD.out; omega) hHeld.2.size ?_
                    intro v4 w4 own4 g4
                    obtain ⟨q4, k4⟩ := grown_lowR (OB2.out) g4 hHeld.2 (Nat.le_refl _)
                    rw [Nat.zero_add, List.nil_append] at own4
                    obtain ⟨A4, c4, rfl⟩ := own2_form own4
                    replace BP := Lib.hid (BP.out.keeps k4 (by simp [Value.ownBlock]))
                    refine hK.out _ _ ?_ (fun hHeld => ?_)
                    · exact holdS1 cW hbW q4
                    clear hK Kont
                    try simp only [Act.put, List.setIfInBounds_toArray, List.set_cons_zero, List.set_cons_succ]
                    refine callL (i := 12) rfl (by kernel_rfl) (fun Kont hK => ?_)
                    refine step_appendP rfl (.tmp 44) (.tmp 51) 42 rfl W0.heap.size 44 i0 (.agg #[.int .i64 0, .int .i64 0]) 16 Try.underlying42 hi hz0 hz1 hz2 rfl ((.slice A4 TL.length c4)) (TL.length) (cells2 TL) rfl (own4) (.slice (some ⟨W0.heap.size + 1, 0, none⟩) 1 1) rfl ([((i : Int), x)]) (RdP.one BP.out) (by unfold maxLen; (try simp only [List.length_cons, List.length_nil]); have := LT.out; have := LD.out; omega) (by (try simp only [List.length_cons, List.length_nil]); have := LT.out; have := LD.out; omega) hHeld.2.size ?_
                    intro v12 w12 own12 g12
                    obtain ⟨q12, k12⟩ := grown_lowR (own4) g12 hHeld.2 (Nat.le_refl _)
                    obtain ⟨A12, c12, rfl⟩ := own2_form own12
                    refine hK.out _ _ ?_ (fun hHeld => ?_)
                    · exact holdS1 cW hbW q12
                    clear hK Kont
                    try simp only [Act.put, List.setIfInBounds_toArray, List.set_cons_zero, List.set_cons_succ]
                    refine callL (i := 16) rfl (by kernel_rfl) (fun Kont hK => ?_)
                    refine step_appendP rfl (.tmp 52) (.tmp 55) 42 rfl W0.heap.size 44 i0 (.agg #[.int .i64 0, .int .i64 0]) 16 Try.underlying42 hi hz0 hz1 hz2 rfl ((.slice A12 (TL.length + [((i : Int), x)].length) c12)) (TL.length + [((i : Int), x)].length) (cells2 TL ++ cells2 [((i : Int), x)]) rfl (own12) (.slice a2 (Z.length - (k + 1)) c2) rfl (DL) (RPOST.out.keep (kW.then hHeld.2)) (by unfold maxLen; (try simp only [List.length_cons, List.length_nil]); have := LT.out; have := LD.out; omega) (by (try simp only [List.length_cons, List.length_nil]); have := LT.out; have := LD.out; omega) hHeld.2.size ?_
                    intro v16 w16 own16 g16
                    obtain ⟨q16, k16⟩ := grown_lowR (own12) g16 hHeld.2 (Nat.le_refl _)
                    obtain ⟨ad', c', rfl, rp, hA'⟩ := FIN.out w16 _ (own_base own16 kW.size)
                    have RP := Lib.hid rp
                    clear rp own16 own12 own4
                    refine hK.out _ _ ?_ (fun hHeld => ?_)
                    · exact holdS1 cW hbW q16
                    clear hK Kont
                    try simp only [Act.put, List.setIfInBounds_toArray, List.set_cons_zero, List.set_cons_succ]
                    refine takeL (i := 17) (v := ?_) rfl (by kernel_rfl) (by kernel_rfl) (by kernel_rfl) (fun _ _ _ h => h) (by rfl) ?_ (by assumption) ?_
                    rotate_left
                    · (intro w hSw; (try dsimp only at hSw); go_simp; (try with_reducible rfl))
                    try simp only [Act.put, List.setIfInBounds_toArray, List.set_cons_zero, List.set_cons_succ]
                    refine wpAnyH_done (by kernel_rfl) ?_ _
                    go_wp2_with fail
                    go_roundw
                    case rel => exact ⟨i + 1, Z.take (k + 1) ++ (i : Int) :: Z.drop (k + 1), ad', c', by omega, by go_num, by first | rfl | (rw [List.length_append, List.length_cons, List.length_take, List.length_drop, Nat.min_eq_left (by omega)]), by have := S2.out.2.2; omega, S2, RP, hA', kr.then (kW.then hHeld.2)⟩
                    case measure => simp [intOf]; omega
                · go_simp
                  refine hK.out _ _ ?_ (fun hHeld => ?_)
                  · exact holdS1 cW hbW (hHeld.2.alloc _)
                  clear hK Kont
                  have BP : Hid (Blk (W0.drew.alloc (.cells #[.int .i64 (i : Int), .int .i64 x] 44)) (W0.heap.size) #[.int .i64 (i : Int), .int .i64 x] 44) := by have h := Blk.new (W0.drew) #[.int .i64 (i : Int), .int .i64 x] 44; first | exact h | (rw [World.size_alloc] at h; exact h)
                  refine callL (i := 0) rfl (by kernel_rfl) (fun Kont hK => ?_)
                  go_simp
                  refine hK.out _ _ ?_ (fun hHeld => ?_)
                  · exact holdS1 cW hbW (hHeld.2.alloc _)
                  clear hK Kont
                  have OB2 : Hid (((W0.drew.alloc (.cells #[.int .i64 (i : Int), .int .i64 x] 44)).alloc (.cells #[] 44)).ownsRow W0.heap.size 44 2 (.slice (some ⟨W0.heap.size + 1, 0, none⟩) 0 0) 0 []) := by have h := own_build0R ((W0.drew.alloc (.cells #[.int .i64 (i : Int), .int .i64 x] 44))) 44 2; first | exact own_base h (Nat.le_refl _) | (rw [World.size_alloc] at h; exact own_base h (Nat.le_succ _))
                  replace BP := Lib.hid (BP.out.alloc (.cells #[] 44))
                  refine callL (i := 4) rfl (by kernel_rfl) (fun Kont hK => ?_)
                  refine step_appendP rfl (.tmp 40) (.tmp 43) 42 rfl W0.heap.size 44 i0 (.agg #[.int .i64 0, .int .i64 0]) 16 Try.underlying42 hi hz0 hz1 hz2 rfl ((.slice (some ⟨W0.heap.size + 1, 0, none⟩) 0 0)) (0) ([]) rfl (OB2.out) (.slice a1 (k + 1) c1) rfl (TL) (RPRE.out.keep (kW.then hHeld.2)) (by unfold maxLen; (try simp only [List.length_cons, List.length_nil]); have := LT.out; have := LD.out; omega) (by (try simp only [List.length_cons, List.length_nil]); have := LT.out; have := LD.out; omega) hHeld.2.size ?_
                  intro v4 w4 own4 g4
                  obtain ⟨q4, k4⟩ := grown_lowR (OB2.out) g4 hHeld.2 (Nat.le_refl _)
                  rw [Nat.zero_add, List.nil_append] at own4
                  obtain ⟨A4, c4, rfl⟩ := own2_form own4
                  replace BP := Lib.hid (BP.out.keeps k4 (by simp [Value.ownBlock]))
                  refine hK.out _ _ ?_ (fun hHeld => ?_)
                  · exact holdS1 cW hbW q4
                  clear hK Kont
                  try simp only [Act.put, List.setIfInBounds_toArray, List.set_cons_zero, List.set_cons_succ]
                  refine callL (i := 12) rfl (by kernel_rfl) (fun Kont hK => ?_)
                  refine step_appendP rfl (.tmp 44) (.tmp 51) 42 rfl W0.heap.size 44 i0 (.agg #[.int .i64 0, .int .i64 0]) 16 Try.underlying42 hi hz0 hz1 hz2 rfl ((.slice A4 TL.length c4)) (TL.length) (cells2 TL) rfl (own4) (.slice (some ⟨W0.heap.size, 0, none⟩) 1 1) rfl ([((i : Int), x)]) (RdP.one BP.out) (by unfold maxLen; (try simp only [List.length_cons, List.length_nil]); have := LT.out; have := LD.out; omega) (by (try simp only [List.length_cons, List.length_nil]); have := LT.out; have := LD.out; omega) hHeld.2.size ?_
                  intro v12 w12 own12 g12
                  obtain ⟨q12, k12⟩ := grown_lowR (own4) g12 hHeld.2 (Nat.le_refl _)
                  obtain ⟨A12, c12, rfl⟩ := own2_form own12
                  refine hK.out _ _ ?_ (fun hHeld => ?_)
                  · exact holdS1 cW hbW q12
                  clear hK Kont
                  try simp only [Act.put, List.setIfInBounds_toArray, List.set_cons_zero, List.set_cons_succ]
                  refine callL (i := 16) rfl (by kernel_rfl) (fun Kont hK => ?_)
                  refine step_appendP rfl (.tmp 52) (.tmp 55) 42 rfl W0.heap.size 44 i0 (.agg #[.int .i64 0, .int .i64 0]) 16 Try.underlying42 hi hz0 hz1 hz2 rfl ((.slice A12 (TL.length + [((i : Int), x)].length) c12)) (TL.length + [((i : Int), x)].length) (cells2 TL ++ cells2 [((i : Int), x)]) rfl (own12) (.slice a2 (Z.length - (k + 1)) c2) rfl (DL) (RPOST.out.keep (kW.then hHeld.2)) (by unfold maxLen; (try simp only [List.length_cons, List.length_nil]); have := LT.out; have := LD.out; omega) (by (try simp only [List.length_cons, List.length_nil]); have := LT.out; have := LD.out; omega) hHeld.2.size ?_
                  intro v16 w16 own16 g16
                  obtain ⟨q16, k16⟩ := grown_lowR (own12) g16 hHeld.2 (Nat.le_refl _)
                  obtain ⟨ad', c', rfl, rp, hA'⟩ := FIN.out w16 _ (own_base own16 kW.size)
                  have RP := Lib.hid rp
                  clear rp own16 own12 own4
                  refine hK.out _ _ ?_ (fun hHeld => ?_)
                  · exact holdS1 cW hbW q16
                  clear hK Kont
                  try simp only [Act.put, List.setIfInBounds_toArray, List.set_cons_zero, List.set_cons_succ]
                  refine takeL (i := 17) (v := ?_) rfl (by kernel_rfl) (by kernel_rfl) (by kernel_rfl) (fun _ _ _ h => h) (by rfl) ?_ (by assumption) ?_
                  rotate_left
                  · (intro w hSw; (try dsimp only at hSw); go_simp; (try with_reducible rfl))
                  try simp only [Act.put, List.setIfInBounds_toArray, List.set_cons_zero, List.set_cons_succ]
                  refine wpAnyH_done (by kernel_rfl) ?_ _
                  go_wp2_with fail
                  go_roundw
                  case rel => exact ⟨i + 1, Z.take (k + 1) ++ (i : Int) :: Z.drop (k + 1), ad', c', by omega, by go_num, by first | rfl | (rw [List.length_append, List.length_cons, List.length_take, List.length_drop, Nat.min_eq_left (by omega)]), by have := S2.out.2.2; omega, S2, RP, hA', kr.then (kW.then hHeld.2)⟩
                  case measure => simp [intOf]; omega
            | zero =>
              have S2 := Lib.hid (TAIL.out (.inl rfl))
              go_wp2_with fail
              go_quiet (fail)
              have kW : Keeps wo ((wo.drewN q).drewN nq) [] := kq.drewN nq
              generalize ((wo.drewN q).drewN nq) = W0 at *
              have hpre : ∀ w', (Instr.slice 42 (.slice ad Z.length c) none (some (.int .i64 0)) none).run Try.prog w' = .ok (.slice a1 (0) c1) w' := fun w' => by have h := HPRE.out w'; first | exact h | (rw [show ((k + 1 : Nat) : Int) = (k : Int) + 1 by omega] at h; exact h)
              have hpost : ∀ w', (Instr.slice 42 (.slice ad Z.length c) (some (.int .i64 0)) none none).run Try.prog w' = .ok (.slice a2 (Z.length - (0)) c2) w' := fun w' => by have h := HPOST.out w'; first | exact h | (rw [show ((k + 1 : Nat) : Int) = (k : Int) + 1 by omega] at h; exact h)
              obtain ⟨TL, hTL⟩ : ∃ T, T = (pairsC l Z).take (0) := ⟨_, rfl⟩
              obtain ⟨DL, hDL⟩ : ∃ T, T = (pairsC l Z).drop (0) := ⟨_, rfl⟩
              rw [← hTL] at RPRE LT
              rw [← hDL] at RPOST LD
              rw [← hTL, ← hDL] at FIN
              clear hTL hDL
              have hbW : b < W0.heap.size := by have := kr.size; have := kW.size; omega
              have cW := (kW.cell (p := ⟨b, o + i, none⟩) (Nat.lt_of_lt_of_le hb kr.size) (by simp)).trans hc1
              go_wp2_with fail
              refine wp_region_held_drew (S := (fun w' => w'.cell? ⟨b, o + i, none⟩ = some (.int .i64 x) ∧ Keeps W0 w' [])) (by kernel_rfl) (holdS1 cW hbW (Keeps.refl W0 []).drew) (fun hHeld => ?_)
              refine takeL (i := 1) (v := ?_) rfl (by kernel_rfl) (by kernel_rfl) (by kernel_rfl) (fun _ _ _ h => h) (by rfl) ?_ (by assumption) ?_
              rotate_left
              · (intro w hSw; (try dsimp only at hSw); go_simp; (try with_reducible rfl))
              try simp only [Act.put, List.setIfInBounds_toArray, List.set_cons_zero, List.set_cons_succ]
              refine takeL (i := 2) (v := ?_) rfl (by kernel_rfl) (by kernel_rfl) (by kernel_rfl) (fun _ _ _ h => h) (by rfl) ?_ (by assumption) ?_
              rotate_left
              · (intro w hSw; (try dsimp only at hSw); go_simp; (try with_reducible rfl))
              try simp only [Act.put, List.setIfInBounds_toArray, List.set_cons_zero, List.set_cons_succ]
              refine takeL (i := 3) (v := ?_) rfl (by kernel_rfl) (by kernel_rfl) (by kernel_rfl) (fun _ _ _ h => h) (by rfl) ?_ (by assumption) ?_
              rotate_left
              · (intro w hSw; (try dsimp only at hSw); go_simp; (try with_reducible rfl))
              try simp only [Act.put, List.setIfInBounds_toArray, List.set_cons_zero, List.set_cons_succ]
              refine takeL (i := 5) (v := ?_) rfl (by kernel_rfl) (by kernel_rfl) (by kernel_rfl) (fun _ _ _ h => h) (by rfl) ?_ (by assumption) ?_
              rotate_left
              · (intro w hSw; (try dsimp only at hSw); go_simp; (try with_reducible rfl))
              try simp only [Act.put, List.setIfInBounds_toArray, List.set_cons_zero, List.set_cons_succ]
              refine takeL (i := 6) (v := ?_) rfl (by kernel_rfl) (by kernel_rfl) (by kernel_rfl) (fun _ _ _ h => h) (by rfl) ?_ (by assumption) ?_
              rotate_left
              · (intro w hSw; (try dsimp only at hSw); go_simp; (try with_reducible rfl))
              try simp only [Act.put, List.setIfInBounds_toArray, List.set_cons_zero, List.set_cons_succ]
              refine takeL (i := 7) (v := ?_) rfl (by kernel_rfl) (by kernel_rfl) (by kernel_rfl) (fun _ _ _ h => h) (by rfl) ?_ (by assumption) ?_
              rotate_left
              · (intro w hSw; (try dsimp only at hSw); go_simp; (try with_reducible rfl))
              try simp only [Act.put, List.setIfInBounds_toArray, List.set_cons_zero, List.set_cons_succ]
              refine takeL (i := 8) (v := ?_) rfl (by kernel_rfl) (by kernel_rfl) (by kernel_rfl) (fun _ _ _ h => h) (by rfl) ?_ (by assumption) ?_
              rotate_left
              · (intro w hSw; (try dsimp only at hSw); go_simp; (try with_reducible rfl))
              try simp only [Act.put, List.setIfInBounds_toArray, List.set_cons_zero, List.set_cons_succ]
              refine takeL (i := 9) (v := ?_) rfl (by kernel_rfl) (by kernel_rfl) (by kernel_rfl) (fun _ _ _ h => h) (by rfl) ?_ (by assumption) ?_
              rotate_left
              · (intro w hSw; (try dsimp only at hSw); go_simp; (try with_reducible rfl))
              try simp only [Act.put, List.setIfInBounds_toArray, List.set_cons_zero, List.set_cons_succ]
              refine takeL (i := 10) (v := ?_) rfl (by kernel_rfl) (by kernel_rfl) (by kernel_rfl) (fun _ _ _ h => h) (by rfl) ?_ (by assumption) ?_
              rotate_left
              · (intro w hSw; (try dsimp only at hSw); go_simp; (try with_reducible rfl))
              try simp only [Act.put, List.setIfInBounds_toArray, List.set_cons_zero, List.set_cons_succ]
              refine takeL (i := 13) (v := ?_) rfl (by kernel_rfl) (by kernel_rfl) (by kernel_rfl) (fun _ _ _ h => h) (by rfl) ?_ (by assumption) ?_
              rotate_left
              · (intro w hSw; (try dsimp only at hSw); go_simp; (try with_reducible rfl))
              try simp only [Act.put, List.setIfInBounds_toArray, List.set_cons_zero, List.set_cons_succ]
              refine takeL (i := 14) (v := ?_) rfl (by kernel_rfl) (by kernel_rfl) (by kernel_rfl) (fun _ _ _ h => h) (by rfl) ?_ (by assumption) ?_
              rotate_left
              · (intro w hSw; (try dsimp only at hSw); go_simp; (try with_reducible rfl))
              try simp only [Act.put, List.setIfInBounds_toArray, List.set_cons_zero, List.set_cons_succ]
              refine takeL (i := 15) (v := ?_) rfl (by kernel_rfl) (by kernel_rfl) (by kernel_rfl) (fun _ _ _ h => h) (by rfl) ?_ (by assumption) ?_
              rotate_left
              · (intro w hSw; (try dsimp only at hSw); go_simp; (try with_reducible rfl))
              try simp only [Act.put, List.setIfInBounds_toArray, List.set_cons_zero, List.set_cons_succ]
              refine call2L (i := 0) (j := 11) rfl rfl (by kernel_rfl) (fun Kont hK => ?_) (fun Kont hK => ?_)
              · go_simp
                refine hK.out _ _ ?_ (fun hHeld => ?_)
                · exact holdS1 cW hbW (hHeld.2.alloc _)
                clear hK Kont
                have OB2 : Hid ((W0.drew.alloc (.cells #[] 44)).ownsRow W0.heap.size 44 2 (.slice (some ⟨W0.heap.size, 0, none⟩) 0 0) 0 []) := by have h := own_build0R (W0.drew) 44 2; first | exact own_base h (Nat.le_refl _) | (rw [World.size_alloc] at h; exact own_base h (Nat.le_succ _))
                refine call2L (i := 4) (j := 11) rfl rfl (by kernel_rfl) (fun Kont hK => ?_) (fun Kont hK => ?_)
                · refine step_appendP rfl (.tmp 40) (.tmp 43) 42 rfl W0.heap.size 44 i0 (.agg #[.int .i64 0, .int .i64 0]) 16 Try.underlying42 hi hz0 hz1 hz2 rfl ((.slice (some ⟨W0.heap.size, 0, none⟩) 0 0)) (0) ([]) rfl (OB2.out) (.slice a1 (0) c1) rfl (TL) (RPRE.out.keep (kW.then hHeld.2)) (by unfold maxLen; (try simp only [List.length_cons, List.length_nil]); have := LT.out; have := LD.out; omega) (by (try simp only [List.length_cons, List.length_nil]); have := LT.out; have := LD.out; omega) hHeld.2.size ?_
                  intro v4 w4 own4 g4
                  obtain ⟨q4, k4⟩ := grown_lowR (OB2.out) g4 hHeld.2 (Nat.le_refl _)
                  rw [Nat.zero_add, List.nil_append] at own4
                  obtain ⟨A4, c4, rfl⟩ := own2_form own4
                  refine hK.out _ _ ?_ (fun hHeld => ?_)
                  · exact holdS1 cW hbW q4
                  clear hK Kont
                  try simp only [Act.put, List.setIfInBounds_toArray, List.set_cons_zero, List.set_cons_succ]
                  refine callL (i := 11) rfl (by kernel_rfl) (fun Kont hK => ?_)
                  go_simp
                  refine hK.out _ _ ?_ (fun hHeld => ?_)
                  · exact holdS1 cW hbW (hHeld.2.alloc _)
                  clear hK Kont
                  have BP : Hid (Blk (w4.alloc (.cells #[.int .i64 (i : Int), .int .i64 x] 44)) (w4.heap.size) #[.int .i64 (i : Int), .int .i64 x] 44) := by have h := Blk.new (w4) #[.int .i64 (i : Int), .int .i64 x] 44; first | exact h | (rw [World.size_alloc] at h; exact h)
                  replace own4 := own2_keeps own4 ((Keeps.refl _ []).alloc (.cells #[.int .i64 (i : Int), .int .i64 x] 44))
                  refine callL (i := 12) rfl (by kernel_rfl) (fun Kont hK => ?_)
                  refine step_appendP rfl (.tmp 44) (.tmp 51) 42 rfl W0.heap.size 44 i0 (.agg #[.int .i64 0, .int .i64 0]) 16 Try.underlying42 hi hz0 hz1 hz2 rfl ((.slice A4 TL.length c4)) (TL.length) (cells2 TL) rfl (own4) (.slice (some ⟨w4.heap.size, 0, none⟩) 1 1) rfl ([((i : Int), x)]) (RdP.one BP.out) (by unfold maxLen; (try simp only [List.length_cons, List.length_nil]); have := LT.out; have := LD.out; omega) (by (try simp only [List.length_cons, List.length_nil]); have := LT.out; have := LD.out; omega) hHeld.2.size ?_
                  intro v12 w12 own12 g12
                  obtain ⟨q12, k12⟩ := grown_lowR (own4) g12 hHeld.2 (Nat.le_refl _)
                  obtain ⟨A12, c12, rfl⟩ := own2_form own12
                  refine hK.out _ _ ?_ (fun hHeld => ?_)
                  · exact holdS1 cW hbW q12
                  clear hK Kont
                  try simp only [Act.put, List.setIfInBounds_toArray, List.set_cons_zero, List.set_cons_succ]
                  refine callL (i := 16) rfl (by kernel_rfl) (fun Kont hK => ?_)
                  refine step_appendP rfl (.tmp 52) (.tmp 55) 42 rfl W0.heap.size 44 i0 (.agg #[.int .i64 0, .int .i64 0]) 16 Try.underlying42 hi hz0 hz1 hz2 rfl ((.slice A12 (TL.length + [((i : Int), x)].length) c12)) (TL.length + [((i : Int), x)].length) (cells2 TL ++ cells2 [((i : Int), x)]) rfl (own12) (.slice a2 (Z.length - (0)) c2) rfl (DL) (RPOST.out.keep (kW.then hHeld.2)) (by unfold maxLen; (try simp only [List.length_cons, List.length_nil]); have := LT.out; have := LD.out; omega) (by (try simp only [List.length_cons, List.length_nil]); have := LT.out; have := LD.out; omega) hHeld.2.size ?_
                  intro v16 w16 own16 g16
                  obtain ⟨q16, k16⟩ := grown_lowR (own12) g16 hHeld.2 (Nat.le_refl _)
                  obtain ⟨ad', c', rfl, rp, hA'⟩ := FIN.out w16 _ (own_base own16 kW.size)
                  have RP := Lib.hid rp
                  clear rp own16 own12 own4
                  refine hK.out _ _ ?_ (fun hHeld => ?_)
                  · exact holdS1 cW hbW q16
                  clear hK Kont
                  try simp only [Act.put, List.setIfInBounds_toArray, List.set_cons_zero, List.set_cons_succ]
                  refine takeL (i := 17) (v := ?_) rfl (by kernel_rfl) (by kernel_rfl) (by kernel_rfl) (fun _ _ _ h => h) (by rfl) ?_ (by assumption) ?_
                  rotate_left
                  · (intro w hSw; (try dsimp only at hSw); go_simp; (try with_reducible rfl))
                  try simp only [Act.put, List.setIfInBounds_toArray, List.set_cons_zero, List.set_cons_succ]
                  refine wpAnyH_done (by kernel_rfl) ?_ _
                  go_wp2_with fail
                  go_roundw
                  case rel => exact ⟨i + 1, Z.take (0) ++ (i : Int) :: Z.drop (0), ad', c', by omega, by go_num, by first | rfl | (rw [List.length_append, List.length_cons, List.length_take, List.length_drop, Nat.min_eq_left (by omega)]), by have := S2.out.2.2; omega, S2, RP, hA', kr.then (kW.then hHeld.2)⟩
                  case measure => simp [intOf]; omega
                · go_simp
                  refine hK.out _ _ ?_ (fun hHeld => ?_)
                  · exact holdS1 cW hbW (hHeld.2.alloc _)
                  clear hK Kont
                  have BP : Hid (Blk ((W0.drew.alloc (.cells #[] 44)).alloc (.cells #[.int .i64 (i : Int), .int .i64 x] 44)) (W0.heap.size + 1) #[.int .i64 (i : Int), .int .i64 x] 44) := by have h := Blk.new ((W0.drew.alloc (.cells #[] 44))) #[.int .i64 (i : Int), .int .i64 x] 44; first | exact h | (rw [World.size_alloc] at h; exact h)
                  replace OB2 := Lib.hid (own2_keeps OB2.out ((Keeps.refl _ []).alloc (.cells #[.int .i64 (i : Int), .int .i64 x] 44)))
                  refine callL (i := 4) rfl (by kernel_rfl) (fun Kont hK => ?_)
                  refine step_appendP rfl (.tmp 40) (.tmp 43) 42 rfl W0.heap.size 44 i0 (.agg #[.int .i64 0, .int .i64 0]) 16 Try.underlying42 hi hz0 hz1 hz2 rfl ((.slice (some ⟨W0.heap.size, 0, none⟩) 0 0)) (0) ([]) rfl (OB2.out) (.slice a1 (0) c1) rfl (TL) (RPRE.out.keep (kW.then hHeld.2)) (by unfold maxLen; (try simp only [List.length_cons, List.length_nil]); have := LT.out; have := LD.out; omega) (by (try simp only [List.length_cons, List.length_nil]); have := LT.out; have := LD.out; omega) hHeld.2.size ?_
                  intro v4 w4 own4 g4
                  obtain ⟨q4, k4⟩ := grown_lowR (OB2.out) g4 hHeld.2 (Nat.le_refl _)
                  rw [Nat.zero_add, List.nil_append] at own4
                  obtain ⟨A4, c4, rfl⟩ := own2_form own4
                  replace BP := Lib.hid (BP.out.keeps k4 (by simp [Value.ownBlock]))
                  refine hK.out _ _ ?_ (fun hHeld => ?_)
                  · exact holdS1 cW hbW q4
                  clear hK Kont
                  try simp only [Act.put, List.setIfInBounds_toArray, List.set_cons_zero, List.set_cons_succ]
                  refine callL (i := 12) rfl (by kernel_rfl) (fun Kont hK => ?_)
                  refine step_appendP rfl (.tmp 44) (.tmp 51) 42 rfl W0.heap.size 44 i0 (.agg #[.int .i64 0, .int .i64 0]) 16 Try.underlying42 hi hz0 hz1 hz2 rfl ((.slice A4 TL.length c4)) (TL.length) (cells2 TL) rfl (own4) (.slice (some ⟨W0.heap.size + 1, 0, none⟩) 1 1) rfl ([((i : Int), x)]) (RdP.one BP.out) (by unfold maxLen; (try simp only [List.length_cons, List.length_nil]); have := LT.out; have := LD.out; omega) (by (try simp only [List.length_cons, List.length_nil]); have := LT.out; have := LD.out; omega) hHeld.2.size ?_
                  intro v12 w12 own12 g12
                  obtain ⟨q12, k12⟩ := grown_lowR (own4) g12 hHeld.2 (Nat.le_refl _)
                  obtain ⟨A12, c12, rfl⟩ := own2_form own12
                  refine hK.out _ _ ?_ (fun hHeld => ?_)
                  · exact holdS1 cW hbW q12
                  clear hK Kont
                  try simp only [Act.put, List.setIfInBounds_toArray, List.set_cons_zero, List.set_cons_succ]
                  refine callL (i := 16) rfl (by kernel_rfl) (fun Kont hK => ?_)
                  refine step_appendP rfl (.tmp 52) (.tmp 55) 42 rfl W0.heap.size 44 i0 (.agg #[.int .i64 0, .int .i64 0]) 16 Try.underlying42 hi hz0 hz1 hz2 rfl ((.slice A12 (TL.length + [((i : Int), x)].length) c12)) (TL.length + [((i : Int), x)].length) (cells2 TL ++ cells2 [((i : Int), x)]) rfl (own12) (.slice a2 (Z.length - (0)) c2) rfl (DL) (RPOST.out.keep (kW.then hHeld.2)) (by unfold maxLen; (try simp only [List.length_cons, List.length_nil]); have := LT.out; have := LD.out; omega) (by (try simp only [List.length_cons, List.length_nil]); have := LT.out; have := LD.out; omega) hHeld.2.size ?_
                  intro v16 w16 own16 g16
                  obtain ⟨q16, k16⟩ := grown_lowR (own12) g16 hHeld.2 (Nat.le_refl _)
                  obtain ⟨ad', c', rfl, rp, hA'⟩ := FIN.out w16 _ (own_base own16 kW.size)
                  have RP := Lib.hid rp
                  clear rp own16 own12 own4
                  refine hK.out _ _ ?_ (fun hHeld => ?_)
                  · exact holdS1 cW hbW q16
                  clear hK Kont
                  try simp only [Act.put, List.setIfInBounds_toArray, List.set_cons_zero, List.set_cons_succ]
                  refine takeL (i := 17) (v := ?_) rfl (by kernel_rfl) (by kernel_rfl) (by kernel_rfl) (fun _ _ _ h => h) (by rfl) ?_ (by assumption) ?_
                  rotate_left
                  · (intro w hSw; (try dsimp only at hSw); go_simp; (try with_reducible rfl))
                  try simp only [Act.put, List.setIfInBounds_toArray, List.set_cons_zero, List.set_cons_succ]
                  refine wpAnyH_done (by kernel_rfl) ?_ _
                  go_wp2_with fail
                  go_roundw
                  case rel => exact ⟨i + 1, Z.take (0) ++ (i : Int) :: Z.drop (0), ad', c', by omega, by go_num, by first | rfl | (rw [List.length_append, List.length_cons, List.length_take, List.length_drop, Nat.min_eq_left (by omega)]), by have := S2.out.2.2; omega, S2, RP, hA', kr.then (kW.then hHeld.2)⟩
                  case measure => simp [intOf]; omega
              · go_simp
                refine hK.out _ _ ?_ (fun hHeld => ?_)
                · exact holdS1 cW hbW (hHeld.2.alloc _)
                clear hK Kont
                have BP : Hid (Blk (W0.drew.alloc (.cells #[.int .i64 (i : Int), .int .i64 x] 44)) (W0.heap.size) #[.int .i64 (i : Int), .int .i64 x] 44) := by have h := Blk.new (W0.drew) #[.int .i64 (i : Int), .int .i64 x] 44; first | exact h | (rw [World.size_alloc] at h; exact h)
                refine callL (i := 0) rfl (by kernel_rfl) (fun Kont hK => ?_)
                go_simp
                refine hK.out _ _ ?_ (fun hHeld => ?_)
                · exact holdS1 cW hbW (hHeld.2.alloc _)
                clear hK Kont
                have OB2 : Hid (((W0.drew.alloc (.cells #[.int .i64 (i : Int), .int .i64 x] 44)).alloc (.cells #[] 44)).ownsRow W0.heap.size 44 2 (.slice (some ⟨W0.heap.size + 1, 0, none⟩) 0 0) 0 []) := by have h := own_build0R ((W0.drew.alloc (.cells #[.int .i64 (i : Int), .int .i64 x] 44))) 44 2; first | exact own_base h (Nat.le_refl _) | (rw [World.size_alloc] at h; exact own_base h (Nat.le_succ _))
                replace BP := Lib.hid (BP.out.alloc (.cells #[] 44))
                refine callL (i := 4) rfl (by kernel_rfl) (fun Kont hK => ?_)
                refine step_appendP rfl (.tmp 40) (.tmp 43) 42 rfl W0.heap.size 44 i0 (.agg #[.int .i64 0, .int .i64 0]) 16 Try.underlying42 hi hz0 hz1 hz2 rfl ((.slice (some ⟨W0.heap.size + 1, 0, none⟩) 0 0)) (0) ([]) rfl (OB2.out) (.slice a1 (0) c1) rfl (TL) (RPRE.out.keep (kW.then hHeld.2)) (by unfold maxLen; (try simp only [List.length_cons, List.length_nil]); have := LT.out; have := LD.out; omega) (by (try simp only [List.length_cons, List.length_nil]); have := LT.out; have := LD.out; omega) hHeld.2.size ?_
                intro v4 w4 own4 g4
                obtain ⟨q4, k4⟩ := grown_lowR (OB2.out) g4 hHeld.2 (Nat.le_refl _)
                rw [Nat.zero_add, List.nil_append] at own4
                obtain ⟨A4, c4, rfl⟩ := own2_form own4
                replace BP := Lib.hid (BP.out.keeps k4 (by simp [Value.ownBlock]))
                refine hK.out _ _ ?_ (fun hHeld => ?_)
                · exact holdS1 cW hbW q4
                clear hK Kont
                try simp only [Act.put, List.setIfInBounds_toArray, List.set_cons_zero, List.set_cons_succ]
                refine callL (i := 12) rfl (by kernel_rfl) (fun Kont hK => ?_)
                refine step_appendP rfl (.tmp 44) (.tmp 51) 42 rfl W0.heap.size 44 i0 (.agg #[.int .i64 0, .int .i64 0]) 16 Try.underlying42 hi hz0 hz1 hz2 rfl ((.slice A4 TL.length c4)) (TL.length) (cells2 TL) rfl (own4) (.slice (some ⟨W0.heap.size, 0, none⟩) 1 1) rfl ([((i : Int), x)]) (RdP.one BP.out) (by unfold maxLen; (try simp only [List.length_cons, List.length_nil]); have := LT.out; have := LD.out; omega) (by (try simp only [List.length_cons, List.length_nil]); have := LT.out; have := LD.out; omega) hHeld.2.size ?_
                intro v12 w12 own12 g12
                obtain ⟨q12, k12⟩ := grown_lowR (own4) g12 hHeld.2 (Nat.le_refl _)
                obtain ⟨A12, c12, rfl⟩ := own2_form own12
                refine hK.out _ _ ?_ (fun hHeld => ?_)
                · exact holdS1 cW hbW q12
                clear hK Kont
                try simp only [Act.put, List.setIfInBounds_toArray, List.set_cons_zero, List.set_cons_succ]
                refine callL (i := 16) rfl (by kernel_rfl) (fun Kont hK => ?_)
                refine step_appendP rfl (.tmp 52) (.tmp 55) 42 rfl W0.heap.size 44 i0 (.agg #[.int .i64 0, .int .i64 0]) 16 Try.underlying42 hi hz0 hz1 hz2 rfl ((.slice A12 (TL.length + [((i : Int), x)].length) c12)) (TL.length + [((i : Int), x)].length) (cells2 TL ++ cells2 [((i : Int), x)]) rfl (own12) (.slice a2 (Z.length - (0)) c2) rfl (DL) (RPOST.out.keep (kW.then hHeld.2)) (by unfold maxLen; (try simp only [List.length_cons, List.length_nil]); have := LT.out; have := LD.out; omega) (by (try simp only [List.length_cons, List.length_nil]); have := LT.out; have := LD.out; omega) hHeld.2.size ?_
                intro v16 w16 own16 g16
                obtain ⟨q16, k16⟩ := grown_lowR (own12) g16 hHeld.2 (Nat.le_refl _)
                obtain ⟨ad', c', rfl, rp, hA'⟩ := FIN.out w16 _ (own_base own16 kW.size)
                have RP := Lib.hid rp
                clear rp own16 own12 own4
                refine hK.out _ _ ?_ (fun hHeld => ?_)
                · exact holdS1 cW hbW q16
                clear hK Kont
                try simp only [Act.put, List.setIfInBounds_toArray, List.set_cons_zero, List.set_cons_succ]
                refine takeL (i := 17) (v := ?_) rfl (by kernel_rfl) (by kernel_rfl) (by kernel_rfl) (fun _ _ _ h => h) (by rfl) ?_ (by assumption) ?_
                rotate_left
                · (intro w hSw; (try dsimp only at hSw); go_simp; (try with_reducible rfl))
                try simp only [Act.put, List.setIfInBounds_toArray, List.set_cons_zero, List.set_cons_succ]
                refine wpAnyH_done (by kernel_rfl) ?_ _
                go_wp2_with fail
                go_roundw
                case rel => exact ⟨i + 1, Z.take (0) ++ (i : Int) :: Z.drop (0), ad', c', by omega, by go_num, by first | rfl | (rw [List.length_append, List.length_cons, List.length_take, List.length_drop, Nat.min_eq_left (by omega)]), by have := S2.out.2.2; omega, S2, RP, hA', kr.then (kW.then hHeld.2)⟩
                case measure => simp [intOf]; omega
        · have hx1 : x = 0 := by omega
          have hS2 := Lib.hid (ris_skip hS.out HX.out hx0)
          subst hx1
          go_wp2_with fail
          go_roundw
          case rel => exact ⟨i + 1, Z, ad, c, by omega, by go_num, rfl, hZl, hS2, hP, hA, kr⟩
          case measure => simp [intOf]; omega
      · have : i = n := by omega
        subst this
        go_wp2_with fail
        go_ret
        refine ⟨_, Z, rfl, hP.out, ?_, fun a n c h => hA.out a (by cases h; rfl), kr⟩
        have this : RisSt l i Z := hS.out
        unfold RisSt at this
        simp only [Rising, HR.out, if_true]
        rw [List.take_of_length_le (by have := HN.out; omega)] at this
        exact ⟨this.1, this.2.1⟩

end Go.Proofs.Ythjbngnihcmedaa
