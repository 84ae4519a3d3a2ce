/-
  The law on every operation: its walk.
-/
import Derived.Test.YticlhaofmcajpaaX3
import Derived.Test.YticlhaofmcajpaaX0
import Derived.Deep.RegionLaw
namespace Go.Proofs.Yticlhaofmcajpaa
set_option linter.unusedVariables false
set_option linter.unusedSimpArgs false
set_option linter.unusedSectionVars false
open Go.RowKit

theorem holdS3 {w w' : World} {a b c : Addr} {x y z : Value} (h1 : w.cell? a = some x) (h2 : w.cell? b = some y) (h3 : w.cell? c = some z) (l1 : a.block < w.heap.size) (l2 : b.block < w.heap.size) (l3 : c.block < w.heap.size) (kk : Keeps w w' []) :
    w'.cell? a = some x ∧ w'.cell? b = some y ∧ w'.cell? c = some z ∧ Keeps w w' [] := ⟨(kk.cell l1 (by simp)).trans h1, (kk.cell l2 (by simp)).trans h2, (kk.cell l3 (by simp)).trans h3, kk⟩

/-- x[:m] of a slice of numbers. -/
theorem slice_pre {P : Program} {t e : TypeId} (ht : P.underlying t = some (.slice e)) {i0 : TypeInfo} (hi : P.info? e = some i0) (h1 : i0.size = 1) {k : IntKind} {w : World} {a : Option Addr} {n c m : Nat} {l : List Int} (h : RdI k w (.slice a n c) l) (hm : m ≤ n) :
    ∃ v', (∀ w', (Instr.slice t (.slice a n c) none (some (.int .i64 m)) none).run P w' = .ok v' w') ∧ RdI k w v' (l.take m) := by
  have hcap := h.cap
  have hmc : m ≤ c := by omega
  refine ⟨.slice (if c = 0 then a else a.map (·.add 0)) m c, fun w' => ?_, ?_⟩
  · simp [Instr.slice, Instr.sliceBounds, Instr.sliceBound, asIntOf, run_underlying ht, go_sem, sizeOf, typeInfo, hi, h1, hmc]
  · have e0 : a.map (·.add 0) = a := by cases a <;> simp [Addr.add]
    rw [e0, ite_self]
    by_cases h0 : m = 0
    · subst h0
      rw [List.take_zero]
      cases a with
      | none => obtain ⟨-, rfl, -⟩ := h.nilcap; exact RdI.nil
      | some ad => exact RdI.zero _ _
    · obtain ⟨b, o, rfl, hb, -⟩ := h.addr (by omega)
      have := h.piece (p := 0) (q := m) (by omega) c (by omega)
      simpa using this

set_option maxRecDepth 100000 in
set_option maxHeartbeats 8000000 in
theorem law_plays (k : Int) (ls : List (List Int)) (at' to' : Int) (kl : List Int) (v vk : Value) (w : World) (hv : RdL .u8 w v ls) (hb : ∀ l ∈ ls, ∀ x ∈ l, 0 ≤ x ∧ x ≤ 255) (hvk : RdI .u8 w vk kl) (hkb : ∀ x ∈ kl, 0 ≤ x ∧ x ≤ 255)
    (hk1 : -9223372036854775808 ≤ k) (hk2 : k ≤ 9223372036854775807) :
    Calls Try.prog 7 #[.int .i64 k, v, .int .i64 at', .int .i64 to', vk] w (LawEnd w) := by
  obtain ⟨A0, n, cp0, rfl, hnl, -⟩ := hv.form
  obtain ⟨Ak, nk', ck, rfl, hnk, -⟩ := hvk.form
  obtain ⟨i0, hi0, hz0, hz1, hz2⟩ := info_parts Try.infoByte
  have FW := Lib.hid (few_any ls _ 12 w hv (by decide))
  cases hfb : fewB ls 12 with
  | false =>
    rw [hfb] at FW
    clear hv hnl hb hvk hkb hnk hfb
    go_enter Try.func7, Try.ntmps7
    go_wp2_with (first | (go_at_call 21; refine FW.out.mono ?_; rintro e w' ⟨rfl, rfl⟩) | (go_at_call 10; refine (works_true _).mono ?_; rintro e w5 ⟨rfl, kk⟩))
    go_ret
    exact LawEnd.of_keeps kk
  | true =>
    rw [hfb] at FW
    obtain ⟨hf1, hf2⟩ := fewB_true hfb
    clear hfb
    by_cases h20 : 20 < nk'
    · have h20' : (20 : Int) < (nk' : Int) := by omega
      clear hv hnl hb hvk hkb hnk hf1 hf2
      go_enter Try.func7, Try.ntmps7
      go_wp2_with (first | (go_at_call 21; refine FW.out.mono ?_; rintro e w' ⟨rfl, rfl⟩) | (go_at_call 10; refine (works_true _).mono ?_; rintro e w5 ⟨rfl, kk⟩))
      go_ret
      exact LawEnd.of_keeps kk
    · have d20 : decide ((20 : Int) < (nk' : Int)) = false := decide_eq_false (by omega)
      have hn12 : n ≤ 12 := by omega
      have HV := Lib.hid hv
      have HB := Lib.hid hb
      have HN := Lib.hid hnl
      have HVK := Lib.hid hvk
      have HKB := Lib.hid hkb
      have HF := Lib.hid hf2
      clear hv hb hnl hvk hkb hnk h20 hf1 hf2
      by_cases hk : k < 1 ∨ 8 < k
      · have G1 := Lib.hid (new_no k w hk)
        have G2 := Lib.hid (r_new_no k w hk)
        clear hk
        go_enter Try.func7, Try.ntmps7
        go_wp2_with (first | (go_at_call 21; refine FW.out.mono ?_; rintro e w' ⟨rfl, rfl⟩) | (go_at_call 11; refine G1.out.mono ?_; rintro e w' ⟨rfl, rfl⟩) | (go_at_call 12; refine G2.out.mono ?_; rintro e w2 ⟨rfl, k2⟩) | (go_at_call 18; refine (num_any _ _).mono ?_; rintro e w' ⟨rfl, rfl⟩))
        refine wp_loop_rounds 1 ?_
        rw [rounds_succ]
        go_wp2_with (go_at_call 10; refine (works_true _).mono ?_; rintro e w5 ⟨rfl, kk⟩)
        all_goals
          go_ret
          exact LawEnd.of_keeps ((k2.alloc _).then kk)
      · obtain ⟨K, rfl⟩ := Int.eq_ofNat_of_zero_le (show 0 ≤ k by omega)
        have hK1 : 1 ≤ K := by omega
        have hK8 : K ≤ 8 := by omega
        clear hk hk1 hk2
        go_enter Try.func7, Try.ntmps7
        go_wp2_with (first | (go_at_call 21; refine FW.out.mono ?_; rintro e w' ⟨rfl, rfl⟩))
        refine (new_yes K w hK1 hK8).mono ?_
        rintro e w1 ⟨p, S1, rfl, i1, l1, k1⟩
        go_wp2_with fail
        refine (r_new_yes K w1 hK1 hK8).mono ?_
        rintro e w2 ⟨rfl, k2⟩
        go_wp2_with (go_at_call 18; refine (num_any _ _).mono ?_; rintro e w' ⟨rfl, rfl⟩)
        have hs2 := k2.size
        have hs1 := k1.size
        have b2 := Blk.new w2 #[.int .i64 (K : Int), .slice none 0 0] 29
        have i2 := (i1.keep k2).keep ((Keeps.refl w2 []).alloc (.cells #[.int .i64 (K : Int), .slice none 0 0] 29))
        have kw2 : Keeps w (w2.alloc (.cells #[.int .i64 (K : Int), .slice none 0 0] 29)) [] := (k1.then k2).alloc _
        have hS1 : ∀ x ∈ S1, w.heap.size ≤ x ∧ x ≠ w2.heap.size := fun x hx => ⟨l1 x hx, by have := i1.lt x hx; omega⟩
        clear i1 k1 k2 l1
        go_loopw [15] (fun s15 wr => ∃ (i : Nat) (B : List Int) (S : List Nat) (A4 : Option Addr) (n4 c4 : Nat), i ≤ n ∧ s15 = .int .i64 i ∧ Hid (B = (ls.take i).flatten) ∧ Hid (Idx wr p K B S) ∧ Blk wr w2.heap.size #[.int .i64 (K : Int), .slice A4 n4 c4] 29 ∧ Hid (RdI .u8 wr (.slice A4 n4 c4) B) ∧
          Hid (∀ x ∈ S, w.heap.size ≤ x ∧ x ≠ w2.heap.size) ∧ Hid (∀ ad, A4 = some ad → ad.block ∉ S ∧ ad.block ≠ w2.heap.size) ∧ Keeps w wr []) (fun s15 _ => n - (intOf s15).toNat)
        case atStart => exact ⟨0, [], S1, none, 0, 0, Nat.zero_le _, rfl, rfl, i2, b2, RdI.nil, hS1, (fun ad h => by cases h), kw2⟩
        case round =>
          obtain ⟨i, B, S, A4, n4, c4, hi, rfl, hBf, iq, bq, rq, hS, hA4, kq⟩ := hrel
          by_cases hlt : i < n
          · obtain ⟨l, hl⟩ : ∃ l, ls[i]? = some l := ⟨_, List.getElem?_eq_getElem (by have := HN.out; omega)⟩
            obtain ⟨b, o, vi, rfl, hbb, hc0, hvi, hcap⟩ := HV.out.at hl
            obtain ⟨A1, n1, c1, rfl, hn1, -⟩ := hvi.form
            have hl100 : n1 ≤ 100 := by rw [hn1]; exact HF.out l (List.mem_of_getElem? hl)
            have hBl : B.length ≤ 1200 := by rw [hBf.out]; have := flatten_take_len HF.out i; omega
            have hl255 := Lib.hid (HB.out l (List.mem_of_getElem? hl))
            have HVI := Lib.hid hvi
            have HL := Lib.hid hl
            have HN1 := Lib.hid hn1
            have hlti : (i : Int) < (n : Int) := by omega
            have hiI : (0 : Int) ≤ (i : Int) := Int.natCast_nonneg _
            have hc1 := (kq.cell (p := ⟨b, o + i, none⟩) hbb (by simp)).trans hc0
            clear hl hn1 hvi
            go_wp2_with fail
            refine (add_any p K B l _ S wr iq.out (HVI.out.keeps kq) hl255.out (by have := HN1.out; omega)).mono ?_
            rintro e w5 ⟨rfl, S5, i5, l5, k5⟩
            have I5 := Lib.hid i5
            have b5 := bq.keeps k5 (fun hm => (hS.out _ hm).2 rfl)
            have R5 := Lib.hid (rq.out.keepsS k5 (fun ad m cp he h0 hm => (hA4.out ad (by cases he; rfl)).1 hm))
            have kw5 : Keeps w w5 [] := kq.trans k5 (fun x hx hlt => by have := (hS.out x hx).1; omega)
            have hS5 : Hid (∀ x ∈ S5, w.heap.size ≤ x ∧ x ≠ w2.heap.size ∧ x < w5.heap.size) := fun x hx => by
              have h1 := i5.lt x hx
              have h2 := bq.lt
              have h3 := kq.size
              rcases l5 x hx with h | h
              · exact ⟨(hS.out x h).1, (hS.out x h).2, h1⟩
              · exact ⟨by omega, by omega, h1⟩
            have hrw : w2.heap.size < w5.heap.size := b5.lt
            clear hc1 i5 k5 l5
            have hc1 := (kw5.cell (p := ⟨b, o + i, none⟩) hbb (by simp)).trans hc0
            obtain ⟨g0, g1⟩ := (⟨b5.cell 0, b5.cell 1⟩ : _ ∧ _)
            go_wp2_with fail
            refine wp_region_held_drew (S := (fun w' => w'.cell? ⟨b, o + i, none⟩ = some (.slice A1 n1 c1) ∧ Keeps w w' [])) (by kernel_rfl) (holdS hc0 hbb kw5.drew) (fun hHeld => ?_)
            refine takeL (i := 1) (v := ?_) rfl (by kernel_rfl) (by kernel_rfl) (by kernel_rfl) (fun _ _ _ h => h) (by rfl) ?_ (by assumption) ?_
            rotate_left
            · (intro w hSw; (try dsimp only at hSw); go_simp; (try with_reducible rfl))
            try simp only [Act.put, List.setIfInBounds_toArray, List.set_cons_zero, List.set_cons_succ]
            refine takeL (i := 2) (v := ?_) rfl (by kernel_rfl) (by kernel_rfl) (by kernel_rfl) (fun _ _ _ h => h) (by rfl) ?_ (by assumption) ?_
            rotate_left
            · (intro w hSw; (try dsimp only at hSw); go_simp; (try with_reducible rfl))
            try simp only [Act.put, List.setIfInBounds_toArray, List.set_cons_zero, List.set_cons_succ]
            refine takeL (i := 3) (v := ?_) rfl (by kernel_rfl) (by kernel_rfl) (by kernel_rfl) (fun _ _ _ h => h) (by rfl) ?_ (by assumption) ?_
            rotate_left
            · (intro w hSw; (try dsimp only at hSw); go_simp; (try with_reducible rfl))
            try simp only [Act.put, List.setIfInBounds_toArray, List.set_cons_zero, List.set_cons_succ]
            refine takeL (i := 4) (v := ?_) rfl (by kernel_rfl) (by kernel_rfl) (by kernel_rfl) (fun _ _ _ h => h) (by rfl) ?_ (by assumption) ?_
            rotate_left
            · (intro w hSw; (try dsimp only at hSw); go_simp; (try with_reducible rfl))
            try simp only [Act.put, List.setIfInBounds_toArray, List.set_cons_zero, List.set_cons_succ]
            refine callL (i := 0) rfl (by kernel_rfl) (fun Kont hK => ?_)
            go_simp
            refine hK.out _ _ ?_ (fun hHeld => ?_)
            · (exact hHeld)
            clear hK Kont
            refine callL (i := 5) rfl (by kernel_rfl) (fun Kont hK => ?_)
            go_simp
            go_at_call 14; refine (r_add K (.slice A4 n4 c4) _ B l _ (R5.out.keeps ((Keeps.refl w5 []).drew)) (HVI.out.keeps hHeld.2) (by have := HN1.out; omega)).mono ?_; rintro e w6 ⟨v6, rfl, r6, k6, h6⟩; obtain ⟨A6, n6, c6, rfl, hn6, -⟩ := r6.form; have HN6 := Lib.hid hn6; clear hn6; have kw6 := hHeld.2.then k6; have b6 := (b5.drew).keeps k6 (by simp); obtain ⟨m0, m1, f0, f1⟩ := (⟨b6.cell 0, b6.cell 1, b6.frozen 0, b6.frozen 1⟩ : _ ∧ _ ∧ _ ∧ _)
            go_wp2_with fail
            refine hK.out _ _ ?_ (fun hHeld => ?_)
            · (exact holdS hc0 hbb kw6)
            clear hK Kont
            have b7 : Blk ((w6.setCell ⟨w2.heap.size, 0, none⟩ (.int .i64 (K : Int))).setCell ⟨w2.heap.size, 1, none⟩ (.slice A6 n6 c6)) w2.heap.size #[.int .i64 (K : Int), .slice A6 n6 c6] 29 := (b6.set 0 _).set 1 _
            have k7 : Keeps w6 ((w6.setCell ⟨w2.heap.size, 0, none⟩ (.int .i64 (K : Int))).setCell ⟨w2.heap.size, 1, none⟩ (.slice A6 n6 c6)) [w2.heap.size] := ((Keeps.refl w6 _).setCell (.inr (by simp)) _).setCell (.inr (by simp)) _
            have kw7 : Keeps w _ [] := kw6.trans k7 (fun x hx hlt => by have := List.mem_singleton.1 hx; omega)
            refine callL (i := 6) rfl (by kernel_rfl) (fun Kont hK => ?_)
            go_simp
            refine hK.out _ _ ?_ (fun hHeld => ?_)
            · (exact holdS hc0 hbb kw7)
            clear hK Kont
            refine wpAnyH_done (by kernel_rfl) ?_ _
            have I7 := Lib.hid (((I5.out.keep ((Keeps.refl w5 []).drew)).keep k6).keeps k7 (fun x hx hm => (hS5.out x hx).2.1 (List.mem_singleton.1 hm)))
            have H6 := Lib.hid h6
            have R7 := Lib.hid (r6.keepsS k7 (fun ad m cp he h0 hm => by have hz : w5.heap.size ≤ ad.block := H6.out ad m cp he; have := List.mem_singleton.1 hm; omega))
            have hc7 := (kw7.cell (p := ⟨b, o + i, none⟩) hbb (by simp)).trans hc0
            obtain ⟨q0, q1⟩ := (⟨b7.cell 0, b7.cell 1⟩ : _ ∧ _)
            have lq7 := b7.lt
            generalize ((w6.setCell ⟨w2.heap.size, 0, none⟩ (.int .i64 (K : Int))).setCell ⟨w2.heap.size, 1, none⟩ (.slice A6 n6 c6)) = w7 at *
            clear m0 m1 f0 f1 g0 g1 b5 b6 I5 R5 k6 k7 kw5 kw6 r6 h6 hHeld iq rq bq
            have hn6 : n6 ≤ 1300 := by have h1 := HN6.out; rw [List.length_append] at h1; have := HN1.out; omega
            have HSL := Lib.hid (fun (m : Nat) (hm : m ≤ n1) => slice_pre (P := Try.prog) Try.underlying22 hi0 hz1 HVI.out hm)
            have zK : (0 : Int) < (K : Int) := by omega
            have zK2 : 0 < K := hK1
            have hwr : IntKind.i64.wrap ((n6 : Int) - (K : Int)) = (n6 : Int) - (K : Int) := IntWalk.i64_in _ (by omega)
            have kr7 := Keeps.refl w7 []
            go_wp2_with fail
            obtain ⟨m, hmn, hmc⟩ : ∃ m : Nat, m ≤ n1 ∧ ((K = m ∧ K < n1) ∨ (n1 = m ∧ ¬ K < n1)) := by
              rcases Nat.lt_or_ge K n1 with h | h
              · exact ⟨K, by omega, .inl ⟨rfl, h⟩⟩
              · exact ⟨n1, Nat.le_refl _, .inr ⟨rfl, by omega⟩⟩
            obtain ⟨vs, hsl, rsl⟩ := HSL.out m hmn
            have RSL := Lib.hid rsl
            clear rsl
            rcases hmc with ⟨rfl, zn1⟩ | ⟨rfl, zn1⟩
            all_goals
              have lb7 : b < w7.heap.size := Nat.lt_of_lt_of_le hbb kw7.size
              refine wp_region_held_drew (S := (fun w' => w'.cell? ⟨w2.heap.size, 0, none⟩ = some (.int .i64 (K : Int)) ∧ w'.cell? ⟨w2.heap.size, 1, none⟩ = some (.slice A6 n6 c6) ∧ w'.cell? ⟨b, o + i, none⟩ = some (.slice A1 n1 c1) ∧ Keeps w7 w' [])) (by kernel_rfl) (holdS3 q0 q1 hc7 lq7 lq7 lb7  kr7.drew) (fun hHeld => ?_)
              refine takeL (i := 0) (v := ?_) rfl (by kernel_rfl) (by kernel_rfl) (by kernel_rfl) (fun _ _ _ h => h) (by rfl) ?_ (by assumption) ?_
              rotate_left
              · (intro w hSw; (try dsimp only at hSw); go_simp; (try with_reducible rfl))
              try simp only [Act.put, List.setIfInBounds_toArray, List.set_cons_zero, List.set_cons_succ]
              refine callL (i := 1) rfl (by kernel_rfl) (fun Kont hK => ?_)
              go_simp
              go_at_call 18; refine (num_any _ _).mono ?_; rintro e w' ⟨rfl, rfl⟩
              go_wp2_with fail
              refine hK.out _ _ ?_ (fun hHeld => ?_)
              · (exact hHeld)
              clear hK Kont
              refine takeL (i := 2) (v := ?_) rfl (by kernel_rfl) (by kernel_rfl) (by kernel_rfl) (fun _ _ _ h => h) (by rfl) ?_ (by assumption) ?_
              rotate_left
              · (intro w hSw; (try dsimp only at hSw); go_simp; (try with_reducible rfl))
              try simp only [Act.put, List.setIfInBounds_toArray, List.set_cons_zero, List.set_cons_succ]
              refine takeL (i := 3) (v := ?_) rfl (by kernel_rfl) (by kernel_rfl) (by kernel_rfl) (fun _ _ _ h => h) (by rfl) ?_ (by assumption) ?_
              rotate_left
              · (intro w hSw; (try dsimp only at hSw); go_simp; (try with_reducible rfl))
              try simp only [Act.put, List.setIfInBounds_toArray, List.set_cons_zero, List.set_cons_succ]
              refine takeL (i := 4) (v := ?_) rfl (by kernel_rfl) (by kernel_rfl) (by kernel_rfl) (fun _ _ _ h => h) (by rfl) ?_ (by assumption) ?_
              rotate_left
              · (intro w hSw; (try dsimp only at hSw); go_simp; (try with_reducible rfl))
              try simp only [Act.put, List.setIfInBounds_toArray, List.set_cons_zero, List.set_cons_succ]
              refine takeL (i := 5) (v := ?_) rfl (by kernel_rfl) (by kernel_rfl) (by kernel_rfl) (fun _ _ _ h => h) (by rfl) ?_ (by assumption) ?_
              rotate_left
              · (intro w hSw; (try dsimp only at hSw); go_simp; (try with_reducible rfl))
              try simp only [Act.put, List.setIfInBounds_toArray, List.set_cons_zero, List.set_cons_succ]
              refine takeL (i := 6) (v := ?_) rfl (by kernel_rfl) (by kernel_rfl) (by kernel_rfl) (fun _ _ _ h => h) (by rfl) ?_ (by assumption) ?_
              rotate_left
              · (intro w hSw; (try dsimp only at hSw); go_simp; (try with_reducible rfl))
              try simp only [Act.put, List.setIfInBounds_toArray, List.set_cons_zero, List.set_cons_succ]
              refine takeL (i := 7) (v := ?_) rfl (by kernel_rfl) (by kernel_rfl) (by kernel_rfl) (fun _ _ _ h => h) (by rfl) ?_ (by assumption) ?_
              rotate_left
              · (intro w hSw; (try dsimp only at hSw); go_simp; (try with_reducible rfl))
              try simp only [Act.put, List.setIfInBounds_toArray, List.set_cons_zero, List.set_cons_succ]
              refine takeL (i := 8) (v := ?_) rfl (by kernel_rfl) (by kernel_rfl) (by kernel_rfl) (fun _ _ _ h => h) (by rfl) ?_ (by assumption) ?_
              rotate_left
              · (intro w hSw; (try dsimp only at hSw); go_simp; (try with_reducible rfl))
              try simp only [Act.put, List.setIfInBounds_toArray, List.set_cons_zero, List.set_cons_succ]
              refine callL (i := 9) rfl (by kernel_rfl) (fun Kont hK => ?_)
              go_simp
              go_at_call 25; refine (is_any p K (B ++ l) kl (.slice A6 n6 c6) _ S5 _ _ _ (I7.out.keep hHeld.2.2.2) (R7.out.keeps hHeld.2.2.2) (HVK.out.keeps (kw7.then hHeld.2.2.2)) HKB.out).mono ?_; rintro e w8 ⟨rfl, k8⟩; have q8 := hHeld.2.2.2.then k8
              go_wp2_with fail
              refine hK.out _ _ ?_ (fun hHeld => ?_)
              · (exact holdS3 q0 q1 hc7 lq7 lq7 lb7  q8)
              clear hK Kont
              refine takeL (i := 10) (v := ?_) rfl (by kernel_rfl) (by kernel_rfl) (by kernel_rfl) (fun _ _ _ h => h) (by rfl) ?_ (by assumption) ?_
              rotate_left
              · (intro w hSw; (try dsimp only at hSw); go_simp; (try with_reducible rfl))
              try simp only [Act.put, List.setIfInBounds_toArray, List.set_cons_zero, List.set_cons_succ]
              refine takeL (i := 11) (v := ?_) rfl (by kernel_rfl) (by kernel_rfl) (by kernel_rfl) (fun _ _ _ h => h) (by rfl) ?_ (by assumption) ?_
              rotate_left
              · (intro w hSw; (try dsimp only at hSw); go_simp; (try with_reducible rfl))
              try simp only [Act.put, List.setIfInBounds_toArray, List.set_cons_zero, List.set_cons_succ]
              refine takeL (i := 12) (v := ?_) rfl (by kernel_rfl) (by kernel_rfl) (by kernel_rfl) (fun _ _ _ h => h) (by rfl) ?_ (by assumption) ?_
              rotate_left
              · (intro w hSw; (try dsimp only at hSw); go_simp; (try with_reducible rfl))
              try simp only [Act.put, List.setIfInBounds_toArray, List.set_cons_zero, List.set_cons_succ]
              refine takeL (i := 13) (v := ?_) rfl (by kernel_rfl) (by kernel_rfl) (by kernel_rfl) (fun _ _ _ h => h) (by rfl) ?_ (by assumption) ?_
              rotate_left
              · (intro w hSw; (try dsimp only at hSw); go_simp; (try with_reducible rfl))
              try simp only [Act.put, List.setIfInBounds_toArray, List.set_cons_zero, List.set_cons_succ]
              refine takeL (i := 14) (v := ?_) rfl (by kernel_rfl) (by kernel_rfl) (by kernel_rfl) (fun _ _ _ h => h) (by rfl) ?_ (by assumption) ?_
              rotate_left
              · (intro w hSw; (try dsimp only at hSw); go_simp; (try with_reducible rfl))
              try simp only [Act.put, List.setIfInBounds_toArray, List.set_cons_zero, List.set_cons_succ]
              refine takeL (i := 15) (v := ?_) rfl (by kernel_rfl) (by kernel_rfl) (by kernel_rfl) (fun _ _ _ h => h) (by rfl) ?_ (by assumption) ?_
              rotate_left
              · (intro w hSw; (try dsimp only at hSw); go_simp; (try with_reducible rfl))
              try simp only [Act.put, List.setIfInBounds_toArray, List.set_cons_zero, List.set_cons_succ]
              refine takeL (i := 16) (v := ?_) rfl (by kernel_rfl) (by kernel_rfl) (by kernel_rfl) (fun _ _ _ h => h) (by rfl) ?_ (by assumption) ?_
              rotate_left
              · (intro w hSw; (try dsimp only at hSw); go_simp; (try with_reducible rfl))
              try simp only [Act.put, List.setIfInBounds_toArray, List.set_cons_zero, List.set_cons_succ]
              refine takeL (i := 17) (v := ?_) rfl (by kernel_rfl) (by kernel_rfl) (by kernel_rfl) (fun _ _ _ h => h) (by rfl) ?_ (by assumption) ?_
              rotate_left
              · (intro w hSw; (try dsimp only at hSw); go_simp; (try with_reducible rfl))
              try simp only [Act.put, List.setIfInBounds_toArray, List.set_cons_zero, List.set_cons_succ]
              refine takeL (i := 18) (v := ?_) rfl (by kernel_rfl) (by kernel_rfl) (by kernel_rfl) (fun _ _ _ h => h) (by rfl) ?_ (by assumption) ?_
              rotate_left
              · (intro w hSw; (try dsimp only at hSw); go_simp; (try with_reducible rfl))
              try simp only [Act.put, List.setIfInBounds_toArray, List.set_cons_zero, List.set_cons_succ]
              refine takeL (i := 19) (v := ?_) rfl (by kernel_rfl) (by kernel_rfl) (by kernel_rfl) (fun _ _ _ h => h) (by rfl) ?_ (by assumption) ?_
              rotate_left
              · (intro w hSw; (try dsimp only at hSw); go_simp; (try with_reducible rfl))
              try simp only [Act.put, List.setIfInBounds_toArray, List.set_cons_zero, List.set_cons_succ]
              refine takeL (i := 20) (v := ?_) rfl (by kernel_rfl) (by kernel_rfl) (by kernel_rfl) (fun _ _ _ h => h) (by rfl) ?_ (by assumption) ?_
              rotate_left
              · (intro w hSw; (try dsimp only at hSw); go_simp; (try with_reducible rfl))
              try simp only [Act.put, List.setIfInBounds_toArray, List.set_cons_zero, List.set_cons_succ]
              refine takeL (i := 21) (v := ?_) rfl (by kernel_rfl) (by kernel_rfl) (by kernel_rfl) (fun _ _ _ h => h) (by rfl) ?_ (by assumption) ?_
              rotate_left
              · (intro w hSw; (try dsimp only at hSw); go_simp; (try with_reducible rfl))
              try simp only [Act.put, List.setIfInBounds_toArray, List.set_cons_zero, List.set_cons_succ]
              refine takeL (i := 22) (v := ?_) rfl (by kernel_rfl) (by kernel_rfl) (by kernel_rfl) (fun _ _ _ h => h) (by rfl) ?_ (by assumption) ?_
              rotate_left
              · (intro w hSw; (try dsimp only at hSw); go_simp; (try with_reducible rfl))
              try simp only [Act.put, List.setIfInBounds_toArray, List.set_cons_zero, List.set_cons_succ]
              refine takeL (i := 23) (v := ?_) rfl (by kernel_rfl) (by kernel_rfl) (by kernel_rfl) (fun _ _ _ h => h) (by rfl) ?_ (by assumption) ?_
              rotate_left
              · (intro w hSw; (try dsimp only at hSw); go_simp; (try with_reducible rfl))
              try simp only [Act.put, List.setIfInBounds_toArray, List.set_cons_zero, List.set_cons_succ]
              refine takeL (i := 24) (v := ?_) rfl (by kernel_rfl) (by kernel_rfl) (by kernel_rfl) (fun _ _ _ h => h) (by rfl) ?_ (by assumption) ?_
              rotate_left
              · (intro w hSw; (try dsimp only at hSw); go_simp; (try with_reducible rfl))
              try simp only [Act.put, List.setIfInBounds_toArray, List.set_cons_zero, List.set_cons_succ]
              refine takeL (i := 25) (v := ?_) rfl (by kernel_rfl) (by kernel_rfl) (by kernel_rfl) (fun _ _ _ h => h) (by rfl) ?_ (by assumption) ?_
              rotate_left
              · (intro w hSw; (try dsimp only at hSw); go_simp; (try with_reducible rfl))
              try simp only [Act.put, List.setIfInBounds_toArray, List.set_cons_zero, List.set_cons_succ]
              refine takeL (i := 26) (v := ?_) rfl (by kernel_rfl) (by kernel_rfl) (by kernel_rfl) (fun _ _ _ h => h) (by rfl) ?_ (by assumption) ?_
              rotate_left
              · (intro w hSw; (try dsimp only at hSw); go_simp; (try with_reducible rfl))
              try simp only [Act.put, List.setIfInBounds_toArray, List.set_cons_zero, List.set_cons_succ]
              refine takeL (i := 27) (v := ?_) rfl (by kernel_rfl) (by kernel_rfl) (by kernel_rfl) (fun _ _ _ h => h) (by rfl) ?_ (by assumption) ?_
              rotate_left
              · (intro w hSw; (try dsimp only at hSw); go_simp; (try with_reducible rfl))
              try simp only [Act.put, List.setIfInBounds_toArray, List.set_cons_zero, List.set_cons_succ]
              refine takeL (i := 28) (v := ?_) rfl (by kernel_rfl) (by kernel_rfl) (by kernel_rfl) (fun _ _ _ h => h) (by rfl) ?_ (by assumption) ?_
              rotate_left
              · (intro w hSw; (try dsimp only at hSw); go_simp; (try with_reducible rfl))
              try simp only [Act.put, List.setIfInBounds_toArray, List.set_cons_zero, List.set_cons_succ]
              refine takeL (i := 29) (v := ?_) rfl (by kernel_rfl) (by kernel_rfl) (by kernel_rfl) (fun _ _ _ h => h) (by rfl) ?_ (by assumption) ?_
              rotate_left
              · (intro w hSw; (try dsimp only at hSw); go_simp; (try with_reducible rfl))
              try simp only [Act.put, List.setIfInBounds_toArray, List.set_cons_zero, List.set_cons_succ]
              refine takeL (i := 30) (v := ?_) rfl (by kernel_rfl) (by kernel_rfl) (by kernel_rfl) (fun _ _ _ h => h) (by rfl) ?_ (by assumption) ?_
              rotate_left
              · (intro w hSw; (try dsimp only at hSw); go_simp; (try with_reducible rfl))
              try simp only [Act.put, List.setIfInBounds_toArray, List.set_cons_zero, List.set_cons_succ]
              refine takeL (i := 31) (v := ?_) rfl (by kernel_rfl) (by kernel_rfl) (by kernel_rfl) (fun _ _ _ h => h) (by rfl) ?_ (by assumption) ?_
              rotate_left
              · (intro w hSw; (try dsimp only at hSw); go_simp; (try with_reducible rfl))
              try simp only [Act.put, List.setIfInBounds_toArray, List.set_cons_zero, List.set_cons_succ]
              refine takeL (i := 32) (v := ?_) rfl (by kernel_rfl) (by kernel_rfl) (by kernel_rfl) (fun _ _ _ h => h) (by rfl) ?_ (by assumption) ?_
              rotate_left
              · (intro w hSw; (try dsimp only at hSw); go_simp; (try with_reducible rfl))
              try simp only [Act.put, List.setIfInBounds_toArray, List.set_cons_zero, List.set_cons_succ]
              refine takeL (i := 33) (v := ?_) rfl (by kernel_rfl) (by kernel_rfl) (by kernel_rfl) (fun _ _ _ h => h) (by rfl) ?_ (by assumption) ?_
              rotate_left
              · (intro w hSw; (try dsimp only at hSw); go_simp; (try with_reducible rfl))
              try simp only [Act.put, List.setIfInBounds_toArray, List.set_cons_zero, List.set_cons_succ]
              refine callL (i := 34) rfl (by kernel_rfl) (fun Kont hK => ?_)
              go_simp
              go_at_call 25; refine (is_any p K (B ++ l) _ (.slice A6 n6 c6) _ S5 _ _ _ (I7.out.keep hHeld.2.2.2) (R7.out.keeps hHeld.2.2.2) (RSL.out.keeps (kw7.then hHeld.2.2.2)) (fun x hx => hl255.out x (List.mem_of_mem_take hx))).mono ?_; rintro e w9 ⟨rfl, k9⟩; have q9 := hHeld.2.2.2.then k9
              go_wp2_with fail
              refine hK.out _ _ ?_ (fun hHeld => ?_)
              · (exact holdS3 q0 q1 hc7 lq7 lq7 lb7  q9)
              clear hK Kont
              refine takeL (i := 35) (v := ?_) rfl (by kernel_rfl) (by kernel_rfl) (by kernel_rfl) (fun _ _ _ h => h) (by rfl) ?_ (by assumption) ?_
              rotate_left
              · (intro w hSw; (try dsimp only at hSw); go_simp; (try with_reducible rfl))
              try simp only [Act.put, List.setIfInBounds_toArray, List.set_cons_zero, List.set_cons_succ]
              refine takeL (i := 36) (v := ?_) rfl (by kernel_rfl) (by kernel_rfl) (by kernel_rfl) (fun _ _ _ h => h) (by rfl) ?_ (by assumption) ?_
              rotate_left
              · (intro w hSw; (try dsimp only at hSw); go_simp; (try with_reducible rfl))
              try simp only [Act.put, List.setIfInBounds_toArray, List.set_cons_zero, List.set_cons_succ]
              refine wpAnyH_done (by kernel_rfl) ?_ _
              have i9 := I7.out.keep q9
              have b9 := b7.keeps q9 (by simp)
              have r9 := R7.out.keeps q9
              have kw9 := kw7.then q9
              go_wp2_with fail
              go_roundw
              case rel => exact ⟨i + 1, B ++ l, S5, A6, n6, c6, by omega, by go_num, by show _ = _; rw [flatten_take_succ HL.out, ← hBf.out], i9, b9, r9, fun x hx => ⟨(hS5.out x hx).1, (hS5.out x hx).2.1⟩, fun ad h => ⟨fun hm => by have h1 : w5.heap.size ≤ ad.block := H6.out ad n6 c6 (by rw [h]); have := (hS5.out _ hm).2.2; omega, by have h1 : w5.heap.size ≤ ad.block := H6.out ad n6 c6 (by rw [h]); omega⟩, kw9⟩
              case measure => simp [intOf]; omega
          · have hin : i = n := by omega
            subst hin
            go_wp2_with (go_at_call 10; refine (works_true _).mono ?_; rintro e w7 ⟨rfl, k7⟩)
            go_ret
            exact LawEnd.of_keeps (kq.then k7)

end Go.Proofs.Yticlhaofmcajpaa
