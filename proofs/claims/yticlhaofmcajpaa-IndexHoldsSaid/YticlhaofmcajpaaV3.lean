/-
  Walks of the reference of package index: Chain.
-/
import Derived.Test.YticlhaofmcajpaaV2
namespace Go.Proofs.Yticlhaofmcajpaa
set_option linter.unusedVariables false
set_option linter.unusedSimpArgs false
set_option linter.unusedSectionVars false
open Go.RowKit

theorem str_ne {a b : ByteArray} (h : ¬ a = b) : (a.toList == b.toList) = false := by
  rw [beq_eq_false_iff_ne]
  intro e
  rw [ByteArray.toList_eq, ByteArray.toList_eq] at e
  exact h (by cases a; cases b; simp_all)

set_option maxRecDepth 100000 in
set_option maxHeartbeats 2000000 in
theorem r_chain (K : Nat) (v : Value) (B : List Int) (p : Int) (w : World) (h : RdI .u8 w v B) (hf : Fine K B) :
    Calls Try.prog 17 #[.agg #[.int .i64 (K : Int), v], .int .i64 p] w fun e w' => ∃ v', e = .returned v' ∧ RdI .i64 w' v' (refChain K B p) ∧ Keeps w w' [] ∧ (∀ ad m cp, v' = .slice (some ad) m cp → w.heap.size ≤ ad.block) := by
  have hK := hf.k1
  have hK8 := hf.k8
  have hBl := hf.len
  obtain ⟨A, n, c, rfl, hn, -⟩ := h.form
  obtain ⟨j0, hj0, yz0, yz1, yz2⟩ := info_parts Try.infoInt
  have G := Lib.hid (fun w' (k : Keeps w w' []) (q : Int) => r_key K (.slice A n c) B q w' (h.keeps k) hK hK8 hBl)
  have bX := Blk.new w #[.int .i64 (K : Int), .slice A n c] 29
  have kX : Keeps w (w.alloc (.cells #[.int .i64 (K : Int), .slice A n c] 29)) [] := (Keeps.refl w []).alloc _
  obtain ⟨g0, g1⟩ := (⟨bX.cell 0, bX.cell 1⟩ : _ ∧ _)
  cases hh : hasB (nk K B) p with
  | false =>
    have hfin : Hid (refChain K B p = []) := by show _ = _; rw [refChain, hh]; rfl
    have G1 := G.out _ kX p
    rw [hh] at G1
    have HG := Lib.hid G1
    clear h hn hh G1 G
    go_enter Try.func17, Try.ntmps17
    go_wp2_with (go_at_call 32; refine HG.out.mono ?_; rintro e w1 ⟨rfl, k1⟩)
    refine wp_loop_rounds 1 ?_
    rw [rounds_succ]
    go_wp2_with fail
    all_goals
      go_ret
      exact ⟨_, rfl, by rw [hfin.out]; exact RdI.nil, kX.then k1, fun ad m cp he => by cases he⟩
  | true =>
    obtain ⟨q, rfl⟩ : ∃ q : Nat, p = (q : Int) := ⟨p.toNat, by simp [hasB] at hh; omega⟩
    have hq : q < nk K B := by simp [hasB] at hh; omega
    have hfin : Hid (refChain K B (q : Int) = chainL K B q) := by show _ = _; rw [refChain, hh]; rfl
    have G1 := G.out _ kX (q : Int)
    rw [hh] at G1
    have HG := Lib.hid G1
    have hqn : q ≤ 1000001 := by have : nk K B ≤ B.length + 1 := by unfold nk; omega
                                 omega
    have hq0 : (0 : Int) ≤ (q : Int) := Int.natCast_nonneg _
    have HQ := Lib.hid hq
    clear h hn hh G1 hq
    generalize hSq : keyS K B (q : Int) = Sq at *
    have HSQ := Lib.hid hSq
    clear hSq
    go_enter Try.func17, Try.ntmps17
    go_wp2_with (go_at_call 32; refine HG.out.mono ?_; rintro e w1 ⟨rfl, k1⟩)
    have b1 := bX.keeps k1 (by simp)
    have k01 := kX.then k1
    go_loopw [7, 8] (fun s7 s8 wr => ∃ (j : Nat) (xs : List Int), j ≤ q ∧ s8 = .int .i64 ((j : Int) - 1) ∧ wr.ownsRow (w.heap.size + 1) 3 1 s7 xs.length (xs.map (.int .i64)) ∧ Hid (xs ++ plN K B j (pad (keyAt K B q)) = chainL K B q) ∧ Blk wr w.heap.size #[.int .i64 (K : Int), .slice A n c] 29 ∧ Keeps w wr []) (fun _ s8 _ => (intOf s8 + 1).toNat)
    case atStart => exact ⟨q, [], Nat.le_refl _, rfl, World.ownsRow_nil _ _ _ _, rfl, b1, k01⟩
    case round =>
      obtain ⟨j, xs, hj, rfl, own, hxs, bq, kq⟩ := hrel
      have hxl : xs.length ≤ q := by
        have h1 := congrArg List.length hxs.out
        rw [List.length_append] at h1
        have h2 := plN_len K B q (pad (keyAt K B q))
        unfold chainL at h1
        omega
      cases j with
      | zero =>
        have hx0 : Hid (xs = chainL K B q) := by show _ = _; rw [← hxs.out]; simp [plN]
        obtain ⟨ax, cx, rfl⟩ := own_form own
        have hd : decide ((0 : Int) ≤ ((0 : Nat) : Int) - 1) = false := by decide
        clear hxs
        go_wp2_with fail
        go_ret
        exact ⟨_, rfl, by rw [hfin.out, ← hx0.out]; exact own_reads own, kq, fun ad m cp he => by
          injection he with e1 e2 e3
          subst e1
          have := (own.lt ad.block rfl).1
          omega⟩
      | succ m =>
        have em : ((m + 1 : Nat) : Int) - 1 = (m : Int) := by omega
        have hm0 : (0 : Int) ≤ (m : Int) := Int.natCast_nonneg _
        have hmq : m < q := by omega
        rw [em]
        have G2 := G.out wr kq (m : Int)
        have hhm : hasB (nk K B) (m : Int) = true := by have := HQ.out; simp [hasB]; omega
        rw [hhm] at G2
        have HG2 := Lib.hid G2
        obtain ⟨d0, d1⟩ := (⟨bq.cell 0, bq.cell 1⟩ : _ ∧ _)
        have hke := keyS_eq (p := m) (q := q) hK hf.bytes (by have := HQ.out; omega) HQ.out
        rw [HSQ.out] at hke
        obtain ⟨Sm, hSm⟩ : ∃ Sm, Sm = keyS K B (m : Int) := ⟨_, rfl⟩
        rw [← hSm] at HG2 hke
        have HKE := Lib.hid hke
        clear G2 hhm hSm hke em
        by_cases hs : Sm = Sq
        · have hpl : Hid (plN K B (m + 1) (pad (keyAt K B q)) = (m : Int) :: plN K B m (pad (keyAt K B q))) := by show _ = _; rw [plN, if_pos (HKE.out.1 hs)]
          go_wp2_with (first | (go_at_call 32; refine HG2.out.mono ?_; rintro e w2 ⟨rfl, k2⟩; have own2 := (own_keeps own k2).alloc (.cells #[.int .i64 (m : Int)] 3)) | (at_builtin; refine wpList_append_own _ rfl (.tmp 35) (.tmp 37) 37 rfl (w.heap.size + 1) 3 j0 (.int .i64 0) 1 8 Try.underlying37 hj0 yz0 yz1 yz2 rfl (by decide) u7 xs.length (xs.map (.int .i64)) rfl own2 ⟨w2.heap.size, 0, none⟩ 1 1 [.int .i64 (m : Int)] rfl rfl (cell_one_new _ _ _) (by simp [Value.oneCell']) (by unfold maxLen; omega) (by omega) (by have := bq.lt; have := k2.size; simp; omega) ?_; intro v3 w3 own3 hg3 _))
          have k3 : Keeps w2 w3 u7.ownBlock.toList := ((Keeps.refl w2 _).alloc _).trans (Keeps.of_grown (S := u7.ownBlock.toList) hg3 (fun x hx => by simpa using hx)) (fun x hx _ => hx)
          have hlow : ∀ x ∈ u7.ownBlock.toList, w.heap.size < x := fun x hx => (own.lt x (by simpa using hx)).1
          have b3 := (bq.keeps k2 (by simp)).keeps k3 (fun hm => by have := hlow _ hm; omega)
          have kq3 : Keeps w w3 [] := (kq.then k2).trans k3 (fun x hx hlt => by have := hlow x hx; omega)
          go_roundw
          case rel => exact ⟨m, xs ++ [(m : Int)], by omega, rfl, by rw [List.length_append, List.map_append]; exact own3, by show _ = _; rw [List.append_assoc, List.singleton_append, ← hpl.out]; exact hxs.out, b3, kq3⟩
          case measure => first | (simp [intOf]; done) | (simp [intOf]; omega)
        · have hpl : Hid (plN K B (m + 1) (pad (keyAt K B q)) = plN K B m (pad (keyAt K B q))) := by show _ = _; rw [plN, if_neg (fun h => hs (HKE.out.2 h))]
          have hs2 : (Sm.toList == Sq.toList) = false := str_ne hs
          go_wp2_with (go_at_call 32; refine HG2.out.mono ?_; rintro e w2 ⟨rfl, k2⟩)
          go_roundw
          case rel => exact ⟨m, xs, by omega, rfl, own_keeps own k2, by show _ = _; rw [← hpl.out]; exact hxs.out, bq.keeps k2 (by simp), kq.then k2⟩
          case measure => first | (simp [intOf]; done) | (simp [intOf]; omega)

end Go.Proofs.Yticlhaofmcajpaa
