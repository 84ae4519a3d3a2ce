/-
  The law on pieces: its walk.
-/
import Derived.Test.YticlhaofmcajpaaX3
import Derived.Test.YticlhaofmcajpaaX0
import Derived.Laws.OwnMore
namespace Go.Proofs.Yticlhaofmcajpaa
set_option linter.unusedVariables false
set_option linter.unusedSimpArgs false
set_option linter.unusedSectionVars false
open Go.RowKit

/-- The index's blocks S and the slice's block v are this call's own, apart from one another and from S2. -/
def Apart (w0 : Nat) (S S2 : List Nat) (v : Value) : Prop := (∀ x ∈ S, w0 ≤ x ∧ x ∉ S2) ∧ ∀ x, v.ownBlock = some x → w0 ≤ x ∧ x ∉ S ∧ x ∉ S2

theorem bytesL_all (B : List Int) : bytesL B 0 (B.length : Int) = B := by
  have h0 : clampN B.length 0 = 0 := by unfold clampN; omega
  have h1 : clampN B.length (B.length : Int) = B.length := by unfold clampN; omega
  unfold bytesL
  rw [h0, h1]
  simp

set_option maxRecDepth 100000 in
set_option maxHeartbeats 8000000 in
theorem law_pieces (k : Int) (ls : List (List Int)) (v : Value) (w : World) (hv : RdL .u8 w v ls) (hb : ∀ l ∈ ls, ∀ x ∈ l, 0 ≤ x ∧ x ≤ 255) :
    Calls Try.prog 5 #[.int .i64 k, v] w (LawEnd w) := by
  obtain ⟨A0, n, cp0, rfl, hnl, -⟩ := hv.form
  obtain ⟨i0, hi0, hz0, hz1, hz2⟩ := info_parts Try.infoByte
  have FW := Lib.hid (few_any ls _ 12 w hv (by decide))
  cases hfb : fewB ls 12 with
  | false =>
    rw [hfb] at FW
    clear hv hnl hb hfb
    go_enter Try.func5, Try.ntmps5
    go_wp2_with (first | (go_at_call 21; refine FW.out.mono ?_; rintro e w' ⟨rfl, rfl⟩) | (go_at_call 10; refine (works_true _).mono ?_; rintro e w5 ⟨rfl, kk⟩))
    go_ret
    exact LawEnd.of_keeps kk
  | true =>
    rw [hfb] at FW
    obtain ⟨hf1, hf2⟩ := fewB_true hfb
    clear hfb
    by_cases hk : k < 1 ∨ 8 < k
    · clear hv hnl hb hf1 hf2
      rcases hk with h1 | h1
      all_goals
        go_enter Try.func5, Try.ntmps5
        go_wp2_with (first | (go_at_call 21; refine FW.out.mono ?_; rintro e w' ⟨rfl, rfl⟩) | (go_at_call 10; refine (works_true _).mono ?_; rintro e w5 ⟨rfl, kk⟩))
        all_goals
          go_ret
          exact LawEnd.of_keeps kk
    · have hn12 : n ≤ 12 := by omega
      have HV := Lib.hid hv
      have HB := Lib.hid hb
      have HN := Lib.hid hnl
      have HF := Lib.hid hf2
      obtain ⟨K, rfl⟩ := Int.eq_ofNat_of_zero_le (show 0 ≤ k by omega)
      have hK1 : 1 ≤ K := by omega
      have hK8 : K ≤ 8 := by omega
      have d2 : decide ((K : Int) < 1) = false := decide_eq_false (by omega)
      have d3 : decide ((8 : Int) < (K : Int)) = false := decide_eq_false (by omega)
      clear hv hb hnl hf1 hf2 hk
      go_enter Try.func5, Try.ntmps5
      go_wp2_with (first | (go_at_call 21; refine FW.out.mono ?_; rintro e w' ⟨rfl, rfl⟩))
      refine (new_yes K w hK1 hK8).mono ?_
      rintro e w1 ⟨p, S1, rfl, i1, l1, k1⟩
      go_wp2_with fail
      refine (new_yes K w1 hK1 hK8).mono ?_
      rintro e w2 ⟨q, S2, rfl, i2, l2, k2⟩
      have I1 := Lib.hid (i1.keep k2)
      have I2 := Lib.hid i2
      have k12 := k1.then k2
      have HA : Hid (Apart w.heap.size S1 S2 (.slice none 0 0)) := ⟨fun x hx => ⟨l1 x hx, fun h2 => by have := l2 x h2; have := i1.lt x hx; omega⟩, fun x hx => by cases hx⟩
      have HL2 : Hid (∀ x ∈ S2, w.heap.size ≤ x) := fun x hx => by have := l2 x hx; have := k1.size; omega
      clear i1 i2 l1 l2 k1 k2
      go_wp2_with fail
      go_loopw [9, 10] (fun s9 s10 wr => ∃ (i : Nat) (B : List Int) (S : List Nat) (A9 : Option Addr) (c9 : Nat), i ≤ n ∧ s10 = .int .i64 i ∧ s9 = .slice A9 B.length c9 ∧ Hid (B = (ls.take i).flatten) ∧ Hid (Idx wr p K B S) ∧ Hid (Idx wr q K [] S2) ∧
        Hid (wr.ownsRow w.heap.size 5 1 (.slice A9 B.length c9) B.length (B.map (.int .u8))) ∧ Hid (Apart w.heap.size S S2 (.slice A9 B.length c9)) ∧ Keeps w wr []) (fun _ s10 _ => n - (intOf s10).toNat)
      case atStart => exact ⟨0, [], S1, none, 0, Nat.zero_le _, rfl, rfl, rfl, I1.out, I2.out, World.ownsRow_nil _ _ _ _, HA.out, k12⟩
      case round =>
        obtain ⟨i, B, S, A9, c9, hi, rfl, rfl, hBf, iq, i2, ow, ha, kq⟩ := hrel
        obtain ⟨wo, rfl⟩ : ∃ wo : World, wo = wr := ⟨_, rfl⟩
        clear I1 I2 k12 HA
        have hBl : B.length ≤ 1200 := by rw [hBf.out]; have := flatten_take_len HF.out i; omega
        by_cases hlt : i < n
        · obtain ⟨l, hl⟩ : ∃ l, ls[i]? = some l := ⟨_, List.getElem?_eq_getElem (by have := HN.out; omega)⟩
          obtain ⟨b, o, vi, rfl, hbb, hc0, hvi, hcap⟩ := HV.out.at hl
          obtain ⟨A1, n1, c1, rfl, hn1, -⟩ := hvi.form
          have hl100 : n1 ≤ 100 := by rw [hn1]; exact HF.out l (List.mem_of_getElem? hl)
          have hl255 := Lib.hid (HB.out l (List.mem_of_getElem? hl))
          have HVI := Lib.hid hvi
          have HL := Lib.hid hl
          have HN1 := Lib.hid hn1
          have hlti : (i : Int) < (n : Int) := by omega
          have hiI : (0 : Int) ≤ (i : Int) := Int.natCast_nonneg _
          have hc1 := (kq.cell (p := ⟨b, o + i, none⟩) hbb (by simp)).trans hc0
          have hbr : b < wo.heap.size := Nat.lt_of_lt_of_le hbb kq.size
          have hll : l.length ≤ 100 := by have := HN1.out; omega
          have RV := Lib.hid ((HVI.out.keeps kq).keeps ((Keeps.refl wo []).alloc (.cells #[] 5)))
          clear hl hn1 hvi
          go_wp2_with (first
            | (with_reducible refine wpList_build0 rfl 22 5 rfl i0 _ 1 Try.underlying22 hi0 hz0 ?_; intro v4 hown4 hv4 hne4; have HO4 := Lib.hid hown4; clear hown4; have HV4 := Lib.hid hv4; clear hv4)
            | (at_builtin; refine wpList_appendI rfl (.tmp 47) (.tmp 51) 22 rfl wo.heap.size 5 i0 (.int .u8 0) 1 Try.underlying22 hi0 hz0 hz1 hz2 rfl v4 0 [] rfl HO4.out (.slice A1 n1 c1) rfl .u8 l RV.out (by unfold maxLen; omega) (by omega) (by simp) ?_; intro v5 w5 own5 hg5 _; rw [Nat.zero_add, List.nil_append] at own5; obtain ⟨A5, c5, rfl⟩ := own_form own5; rw [HV4.out] at hg5; have k5 : Keeps wo w5 [] := ((Keeps.refl wo []).alloc _).trans (Keeps.of_grown (S := [wo.heap.size]) hg5 (fun j hj => by cases hj; simp)) (fun x hx hlt => by have := List.mem_singleton.1 hx; omega)))
          have O5 := Lib.hid own5
          clear own5 hg5 HO4 HV4
          refine (add_any p K B l _ S w5 (iq.out.keep k5) (own_reads O5.out) hl255.out (by omega)).mono ?_
          rintro e w6 ⟨rfl, S6, i6, l6, k6⟩
          have I6 := Lib.hid i6
          have hlow5 : Hid (∀ x, Value.ownBlock (.slice A5 l.length c5) = some x → wo.heap.size ≤ x ∧ x < w5.heap.size ∧ x ∉ S ∧ x ∉ S2) := fun x hx => by
            have h1 := O5.out.lt x hx
            exact ⟨h1.1, h1.2, fun hm => by have := iq.out.lt x hm; omega, fun hm => by have := i2.out.lt x hm; omega⟩
          have O6 := Lib.hid (own_keepsS O5.out k6 (fun x hx => (hlow5.out x hx).2.2.1))
          have k56 : Keeps wo w6 S := (k5.mono (by simp)).trans k6 (fun x hx _ => hx)
          have O9 := Lib.hid (own_keepsS ow.out k56 (fun x hx => ((ha.out.2 x hx).2.1)))
          have J2 := Lib.hid (i2.out.keeps k56 (fun x hx hm => (ha.out.1 x hm).2 hx))
          have kw6 : Keeps w w6 [] := kq.trans k56 (fun x hx hlt => by have := (ha.out.1 x hx).1; omega)
          have HS6 : Hid (∀ x ∈ S6, x ∈ S ∨ w5.heap.size ≤ x) := l6
          have hz6 := k6.size
          have hz5 := k5.size
          clear i6 k6 l6 O5 k5 RV hc1
          go_wp2_with (go_at_call 18; refine (num_any _ _).mono ?_; rintro e w' ⟨rfl, rfl⟩)
          go_loopw [12] (fun s12 wr => ∃ (j : Nat) (L : List Int), j ≤ l.length ∧ L.length = l.length ∧ s12 = .int .i64 j ∧ wr.ownsRow wo.heap.size 5 1 (.slice A5 l.length c5) l.length (L.map (.int .u8)) ∧ Keeps w6 wr (Value.ownBlock (.slice A5 l.length c5)).toList) (fun s12 _ => l.length - (intOf s12).toNat)
          case atStart => exact ⟨0, l, Nat.zero_le _, rfl, rfl, O6.out, Keeps.refl _ _⟩
          case round =>
            obtain ⟨j, L, hj, hLl, rfl, own, kx⟩ := hrel
            clear O6
            have HLl := Lib.hid hLl
            by_cases hjl : j < l.length
            · obtain ⟨y, hy⟩ : ∃ y, L[j]? = some y := ⟨_, List.getElem?_eq_getElem (by omega)⟩
              obtain ⟨g, rfl⟩ : ∃ g, A5 = some ⟨g, 0, none⟩ := by
                rcases own.2 with ⟨h1, h2⟩ | ⟨g, cap, cur, h1, -⟩
                · exact absurd h2 (by omega)
                · cases h1; exact ⟨_, rfl⟩
              have hyc : wr.cell? ⟨g, j, none⟩ = some (.int .u8 y) := by
                rw [own.cellAt j (by omega), List.getElem?_map, hy]; rfl
              have hyf := own.frozenAt j
              have hcap5 : l.length ≤ c5 := by
                rcases own.2 with ⟨h1, h2⟩ | ⟨g', cap, cur, h1, -, -, h4, -⟩
                · cases h1
                · cases h1; exact h4
              have hjI : (j : Int) < (l.length : Int) := by omega
              have hj0 : (0 : Int) ≤ (j : Int) := Int.natCast_nonneg _
              have OST := Lib.hid (fun u => (own.stored j u).1)
              have KST := Lib.hid (fun u => kx.setCell (a := ⟨g, j, none⟩) (.inr (by simp [Value.ownBlock])) u)
              have HY := Lib.hid hy
              clear hy hLl own kx
              go_wp2_with fail
              go_roundw
              case rel => exact ⟨j + 1, L.set j (IntKind.u8.wrap (y + 1)), by omega, by rw [List.length_set]; exact HLl.out, by go_num, by rw [List.map_set]; exact OST.out _, KST.out _⟩
              case measure => simp [intOf]; omega
            · have O9x := Lib.hid (own_keepsS O9.out kx (fun x hx hm => by have h1 := (hlow5.out x (by simpa using hm)).1; have h2 := (ow.out.lt x hx).2; omega))
              have J2x := Lib.hid (J2.out.keeps kx (fun x hx hm => (hlow5.out x (by simpa using hm)).2.2.2 hx))
              have I6x := Lib.hid (I6.out.keeps kx (fun x hx hm => by
                have h1 := hlow5.out x (by simpa using hm)
                rcases HS6.out x hx with h | h
                · exact h1.2.2.1 h
                · omega))
              have kwx : Keeps w wr [] := kw6.trans kx (fun x hx hlt => by have h1 := (hlow5.out x (by simpa using hx)).1; have := kq.size; omega)
              have hzx := kx.size
              have RVx := Lib.hid (HVI.out.keeps kwx)
              have hcx := (kwx.cell (p := ⟨b, o + i, none⟩) hbb (by simp)).trans hc0
              clear own kx O9 J2 I6 kw6 hLl HLl
              go_wp2_with (first
                | (at_builtin; refine wpList_appendJ rfl (.tmp 70) (.tmp 74) 22 rfl w.heap.size 5 i0 (.int .u8 0) 1 Try.underlying22 hi0 hz0 hz1 hz2 rfl (.slice A9 B.length c9) B.length (B.map (.int .u8)) rfl O9x.out (.slice A1 n1 c1) rfl .u8 l RVx.out (by unfold maxLen; omega) (by omega) kwx.size ?_; intro v7 w7 own7 hg7 hat7; obtain ⟨A7, c7, rfl⟩ := own_form own7; have O7 := Lib.hid own7; clear own7; have HAT := Lib.hid hat7; clear hat7; have k7 : Keeps wr w7 (Value.ownBlock (.slice A9 B.length c9)).toList := Keeps.of_grown hg7 (fun x hx => by simpa using hx); clear hg7))
              have kw7 : Keeps w w7 [] := kwx.trans k7 (fun x hx hlt => by have := (ha.out.2 x (by simpa using hx)).1; omega)
              have J27 := Lib.hid (J2x.out.keeps k7 (fun x hx hm => (ha.out.2 x (by simpa using hm)).2.2 hx))
              have I67 := Lib.hid (I6x.out.keeps k7 (fun x hx hm => by
                have h1 := ha.out.2 x (by simpa using hm)
                rcases HS6.out x hx with h | h
                · exact h1.2.1 h
                · have := (ow.out.lt x (by simpa using hm)).2; omega))
              have HA7 : Hid (Apart w.heap.size S6 S2 (.slice A7 (B ++ l).length c7)) := by
                refine ⟨fun x hx => ?_, fun x hx => ?_⟩
                · rcases HS6.out x hx with h | h
                  · exact ha.out.1 x h
                  · exact ⟨by have := kq.size; omega, fun hm => by have := i2.out.lt x hm; omega⟩
                · have hx' : Value.ownBlock (.slice A7 (B.length + l.length) c7) = some x := by cases A7 <;> exact hx
                  rcases HAT.out with he | he
                  · rw [he] at hx'
                    have h1 := ha.out.2 x hx'
                    exact ⟨h1.1, fun hm => by
                      rcases HS6.out x hm with h | h
                      · exact h1.2.1 h
                      · have := (ow.out.lt x hx').2; omega, h1.2.2⟩
                  · rw [he] at hx'
                    cases hx'
                    exact ⟨kwx.size, fun hm => by have := I6x.out.lt _ hm; omega, fun hm => by have := J2x.out.lt _ hm; omega⟩
              have O7' : Hid (w7.ownsRow w.heap.size 5 1 (.slice A7 (B ++ l).length c7) (B ++ l).length ((B ++ l).map (.int .u8))) := by
                show w7.ownsRow w.heap.size 5 1 (.slice A7 (B ++ l).length c7) (B ++ l).length ((B ++ l).map (.int .u8))
                rw [List.length_append, List.map_append]; exact O7.out
              clear hcx
              go_wp2_with fail
              go_roundw
              case rel => exact ⟨i + 1, B ++ l, S6, A7, c7, by omega, by go_num, by rw [List.length_append], by show _ = _; rw [flatten_take_succ HL.out, ← hBf.out], I67.out, J27.out, O7'.out, HA7.out, kw7⟩
              case measure => simp [intOf]; omega
        · have hB255 : ∀ x ∈ B, 0 ≤ x ∧ x ≤ 255 := by
            rw [hBf.out]
            intro x hx
            obtain ⟨l, hl, hx⟩ := List.mem_flatten.1 hx
            exact HB.out l (List.mem_of_mem_take hl) x hx
          have RB := Lib.hid (own_reads ow.out)
          clear hBf
          go_wp2_with fail
          refine (add_any q K [] B _ S2 wo i2.out RB.out hB255 (by simp; omega)).mono ?_
          rintro e w3 ⟨rfl, S3, i3, l3, k3⟩
          rw [List.nil_append] at i3
          have I3 := Lib.hid i3
          have IX := Lib.hid (iq.out.keeps k3 (fun x hx => (ha.out.1 x hx).2))
          have RB3 := Lib.hid (RB.out.keepsS k3 (fun ad m cp he h0 hm => by cases he; exact (ha.out.2 ad.block rfl).2.2 hm))
          have kw3 : Keeps w w3 [] := kq.trans k3 (fun x hx hlt => by have := HL2.out x hx; omega)
          have hs3 : ∀ w', Keeps w3 w' [] → (convert 22 9 (.slice A9 B.length c9)).run Try.prog w' = .ok (.string (strOfNums B)) w' := fun w' k => str_of (RB3.out.keeps k) Try.underlying22 Try.underlying5 Try.underlying9
          have HST : Hid (∀ (v : Value) (l : List Int) (w' : World), RdI .u8 w' v l → (convert 22 9 v).run Try.prog w' = .ok (.string (strOfNums l)) w') := fun v l w' k => str_of k Try.underlying22 Try.underlying5 Try.underlying9
          have HBA := Lib.hid (bytesL_all B)
          have hw0 : IntKind.i64.wrap 0 = 0 := by first | rfl | decide
          clear i3 l3 k3 iq i2 ow hB255
          go_wp2_with fail
          refine wp_region_held_drew (S := (fun w' => Keeps w3 w' [])) (by kernel_rfl) ((Keeps.refl w3 []).drew) (fun hHeld => ?_)
          refine takeL (i := 0) (v := ?_) rfl (by kernel_rfl) (by kernel_rfl) (by kernel_rfl) (fun _ _ _ h => h) (by rfl) ?_ (by assumption) ?_
          rotate_left
          · (intro w hSw; (try dsimp only at hSw); go_simp; (try with_reducible rfl))
          try simp only [Act.put, List.setIfInBounds_toArray, List.set_cons_zero, List.set_cons_succ]
          refine takeL (i := 2) (v := ?_) rfl (by kernel_rfl) (by kernel_rfl) (by kernel_rfl) (fun _ _ _ h => h) (by rfl) ?_ (by assumption) ?_
          rotate_left
          · (intro w hSw; (try dsimp only at hSw); go_simp; (try with_reducible rfl))
          try simp only [Act.put, List.setIfInBounds_toArray, List.set_cons_zero, List.set_cons_succ]
          refine takeL (i := 5) (v := ?_) rfl (by kernel_rfl) (by kernel_rfl) (by kernel_rfl) (fun _ _ _ h => h) (by rfl) ?_ (by assumption) ?_
          rotate_left
          · (intro w hSw; (try dsimp only at hSw); go_simp; (try with_reducible rfl))
          try simp only [Act.put, List.setIfInBounds_toArray, List.set_cons_zero, List.set_cons_succ]
          refine callL (i := 1) rfl (by kernel_rfl) (fun Kont hK => ?_)
          go_simp
          go_at_call 18; refine (num_any _ _).mono ?_; rintro e w' ⟨rfl, rfl⟩
          go_wp2_with fail
          refine hK.out _ _ ?_ (fun hHeld => ?_)
          · (exact hHeld)
          clear hK Kont
          refine callL (i := 3) rfl (by kernel_rfl) (fun Kont hK => ?_)
          go_simp
          go_at_call 18; refine (num_any _ _).mono ?_; rintro e w' ⟨rfl, rfl⟩
          go_wp2_with fail
          refine hK.out _ _ ?_ (fun hHeld => ?_)
          · (exact hHeld)
          clear hK Kont
          refine takeL (i := 4) (v := ?_) rfl (by kernel_rfl) (by kernel_rfl) (by kernel_rfl) (fun _ _ _ h => h) (by rfl) ?_ (by assumption) ?_
          rotate_left
          · (intro w hSw; (try dsimp only at hSw); go_simp; (try with_reducible rfl))
          try simp only [Act.put, List.setIfInBounds_toArray, List.set_cons_zero, List.set_cons_succ]
          refine callL (i := 6) rfl (by kernel_rfl) (fun Kont hK => ?_)
          go_simp
          go_at_call 18; refine (num_any _ _).mono ?_; rintro e w' ⟨rfl, rfl⟩
          go_wp2_with fail
          refine hK.out _ _ ?_ (fun hHeld => ?_)
          · (exact hHeld)
          clear hK Kont
          refine takeL (i := 7) (v := ?_) rfl (by kernel_rfl) (by kernel_rfl) (by kernel_rfl) (fun _ _ _ h => h) (by rfl) ?_ (by assumption) ?_
          rotate_left
          · (intro w hSw; (try dsimp only at hSw); go_simp; (try with_reducible rfl))
          try simp only [Act.put, List.setIfInBounds_toArray, List.set_cons_zero, List.set_cons_succ]
          refine takeL (i := 8) (v := ?_) rfl (by kernel_rfl) (by kernel_rfl) (by kernel_rfl) (fun _ _ _ h => h) (by rfl) ?_ (by assumption) ?_
          rotate_left
          · (intro w hSw; (try dsimp only at hSw); go_simp; (try with_reducible rfl))
          try simp only [Act.put, List.setIfInBounds_toArray, List.set_cons_zero, List.set_cons_succ]
          refine takeL (i := 9) (v := ?_) rfl (by kernel_rfl) (by kernel_rfl) (by kernel_rfl) (fun _ _ _ h => h) (by rfl) ?_ (by assumption) ?_
          rotate_left
          · (intro w hSw; (try dsimp only at hSw); go_simp; (try with_reducible rfl))
          try simp only [Act.put, List.setIfInBounds_toArray, List.set_cons_zero, List.set_cons_succ]
          refine takeL (i := 10) (v := ?_) rfl (by kernel_rfl) (by kernel_rfl) (by kernel_rfl) (fun _ _ _ h => h) (by rfl) ?_ (by assumption) ?_
          rotate_left
          · (intro w hSw; (try dsimp only at hSw); go_simp; (try with_reducible rfl))
          try simp only [Act.put, List.setIfInBounds_toArray, List.set_cons_zero, List.set_cons_succ]
          refine takeL (i := 12) (v := ?_) rfl (by kernel_rfl) (by kernel_rfl) (by kernel_rfl) (fun _ _ _ h => h) (by rfl) ?_ (by assumption) ?_
          rotate_left
          · (intro w hSw; (try dsimp only at hSw); go_simp; (try with_reducible rfl))
          try simp only [Act.put, List.setIfInBounds_toArray, List.set_cons_zero, List.set_cons_succ]
          refine takeL (i := 13) (v := ?_) rfl (by kernel_rfl) (by kernel_rfl) (by kernel_rfl) (fun _ _ _ h => h) (by rfl) ?_ (by assumption) ?_
          rotate_left
          · (intro w hSw; (try dsimp only at hSw); go_simp; (try with_reducible rfl))
          try simp only [Act.put, List.setIfInBounds_toArray, List.set_cons_zero, List.set_cons_succ]
          refine callL (i := 11) rfl (by kernel_rfl) (fun Kont hK => ?_)
          go_simp
          go_at_call 22; refine (len_any p K B _ _ (IX.out.keep hHeld)).mono ?_; rintro e w' ⟨rfl, rfl⟩
          go_wp2_with fail
          refine hK.out _ _ ?_ (fun hHeld => ?_)
          · (exact hHeld)
          clear hK Kont
          refine takeL (i := 14) (v := ?_) rfl (by kernel_rfl) (by kernel_rfl) (by kernel_rfl) (fun _ _ _ h => h) (by rfl) ?_ (by assumption) ?_
          rotate_left
          · (intro w hSw; (try dsimp only at hSw); go_simp; (try with_reducible rfl))
          try simp only [Act.put, List.setIfInBounds_toArray, List.set_cons_zero, List.set_cons_succ]
          refine takeL (i := 15) (v := ?_) rfl (by kernel_rfl) (by kernel_rfl) (by kernel_rfl) (fun _ _ _ h => h) (by rfl) ?_ (by assumption) ?_
          rotate_left
          · (intro w hSw; (try dsimp only at hSw); go_simp; (try with_reducible rfl))
          try simp only [Act.put, List.setIfInBounds_toArray, List.set_cons_zero, List.set_cons_succ]
          refine takeL (i := 16) (v := ?_) rfl (by kernel_rfl) (by kernel_rfl) (by kernel_rfl) (fun _ _ _ h => h) (by rfl) ?_ (by assumption) ?_
          rotate_left
          · (intro w hSw; (try dsimp only at hSw); go_simp; (try with_reducible rfl))
          try simp only [Act.put, List.setIfInBounds_toArray, List.set_cons_zero, List.set_cons_succ]
          refine takeL (i := 17) (v := ?_) rfl (by kernel_rfl) (by kernel_rfl) (by kernel_rfl) (fun _ _ _ h => h) (by rfl) ?_ (by assumption) ?_
          rotate_left
          · (intro w hSw; (try dsimp only at hSw); go_simp; (try with_reducible rfl))
          try simp only [Act.put, List.setIfInBounds_toArray, List.set_cons_zero, List.set_cons_succ]
          refine takeL (i := 18) (v := ?_) rfl (by kernel_rfl) (by kernel_rfl) (by kernel_rfl) (fun _ _ _ h => h) (by rfl) ?_ (by assumption) ?_
          rotate_left
          · (intro w hSw; (try dsimp only at hSw); go_simp; (try with_reducible rfl))
          try simp only [Act.put, List.setIfInBounds_toArray, List.set_cons_zero, List.set_cons_succ]
          refine takeL (i := 19) (v := ?_) rfl (by kernel_rfl) (by kernel_rfl) (by kernel_rfl) (fun _ _ _ h => h) (by rfl) ?_ (by assumption) ?_
          rotate_left
          · (intro w hSw; (try dsimp only at hSw); go_simp; (try with_reducible rfl))
          try simp only [Act.put, List.setIfInBounds_toArray, List.set_cons_zero, List.set_cons_succ]
          refine takeL (i := 22) (v := ?_) rfl (by kernel_rfl) (by kernel_rfl) (by kernel_rfl) (fun _ _ _ h => h) (by rfl) ?_ (by assumption) ?_
          rotate_left
          · (intro w hSw; (try dsimp only at hSw); go_simp; (try with_reducible rfl))
          try simp only [Act.put, List.setIfInBounds_toArray, List.set_cons_zero, List.set_cons_succ]
          refine takeL (i := 23) (v := ?_) rfl (by kernel_rfl) (by kernel_rfl) (by kernel_rfl) (fun _ _ _ h => h) (by rfl) ?_ (by assumption) ?_
          rotate_left
          · (intro w hSw; (try dsimp only at hSw); go_simp; (try with_reducible rfl))
          try simp only [Act.put, List.setIfInBounds_toArray, List.set_cons_zero, List.set_cons_succ]
          refine callL (i := 20) rfl (by kernel_rfl) (fun Kont hK => ?_)
          go_simp
          go_at_call 23; refine (bytes_any p K B 0 B.length _ _ (IX.out.keep hHeld)).mono ?_; rintro e w4 ⟨v4, rfl, r4, k4⟩; rw [HBA.out] at r4; have R4 := Lib.hid r4; clear r4; have q4 := hHeld.then k4
          go_wp2_with fail
          refine hK.out _ _ ?_ (fun hHeld => ?_)
          · (exact q4)
          clear hK Kont
          refine wpAnyH_stronger (S2 := fun w' => Keeps w4 w' []) (fun w' h => q4.then h) ?_
          have hHeld4 := Keeps.refl w4 []
          have hs4 : ∀ w', Keeps w4 w' [] → (convert 22 9 v4).run Try.prog w' = .ok (.string (strOfNums B)) w' := fun w' k => HST.out v4 B w' (R4.out.keeps k)
          refine takeL (i := 21) (v := ?_) rfl (by kernel_rfl) (by kernel_rfl) (by kernel_rfl) (fun _ _ _ h => h) (by rfl) ?_ (by assumption) ?_
          rotate_left
          · (intro w hSw; (try dsimp only at hSw); go_simp; (try with_reducible rfl))
          try simp only [Act.put, List.setIfInBounds_toArray, List.set_cons_zero, List.set_cons_succ]
          refine takeL (i := 24) (v := ?_) rfl (by kernel_rfl) (by kernel_rfl) (by kernel_rfl) (fun _ _ _ h => h) (by rfl) ?_ (by assumption) ?_
          rotate_left
          · (intro w hSw; (try dsimp only at hSw); go_simp; (try with_reducible rfl))
          try simp only [Act.put, List.setIfInBounds_toArray, List.set_cons_zero, List.set_cons_succ]
          refine takeL (i := 25) (v := ?_) rfl (by kernel_rfl) (by kernel_rfl) (by kernel_rfl) (fun _ _ _ h => h) (by rfl) ?_ (by assumption) ?_
          rotate_left
          · (intro w hSw; (try dsimp only at hSw); go_simp; (try with_reducible rfl))
          try simp only [Act.put, List.setIfInBounds_toArray, List.set_cons_zero, List.set_cons_succ]
          refine wpAnyH_done (by kernel_rfl) ?_ _
          have IX4 := Lib.hid (IX.out.keep q4)
          have I34 := Lib.hid (I3.out.keep q4)
          have kw4 := kw3.then q4
          clear hs3 hs4 hHeld hHeld4 IX I3 kq ha
          go_wp2_with fail
          go_loopw [14] (fun s14 wr => ∃ (j : Nat), j ≤ B.length ∧ s14 = .int .i64 j ∧ wr = w4) (fun s14 _ => B.length - (intOf s14).toNat)
          case atStart => exact ⟨0, Nat.zero_le _, rfl, rfl⟩
          case round =>
            obtain ⟨j, hj, rfl, rfl⟩ := hrel
            have HP1 := Lib.hid (previous_any p K B S j wr IX4.out)
            have HP2 := Lib.hid (previous_any q K B S3 j wr I34.out)
            unfold optV at HP1 HP2
            by_cases hjl : j < B.length
            · have hjI : (j : Int) < (B.length : Int) := by omega
              go_wp2_with fail
              refine HP1.out.mono ?_
              rintro e w' ⟨rfl, rfl⟩
              go_wp2_with fail
              refine HP2.out.mono ?_
              rintro e w' ⟨rfl, rfl⟩
              go_wp2_with fail
              go_roundw
              case rel => exact ⟨j + 1, by omega, by go_num, by first | rfl | trivial⟩
              case measure => simp [intOf]; omega
            · go_wp2_with (go_at_call 10; refine (works_true _).mono ?_; rintro e w5 ⟨rfl, kk⟩)
              go_ret
              exact LawEnd.of_keeps (kw4.then kk)

end Go.Proofs.Yticlhaofmcajpaa
