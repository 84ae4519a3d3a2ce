/-
  Walks of the reference of package index: Places, Bytes.
-/
import Derived.Test.YticlhaofmcajpaaV3
namespace Go.Proofs.Yticlhaofmcajpaa
set_option linter.unusedVariables false
set_option linter.unusedSimpArgs false
set_option linter.unusedSectionVars false
open Go.RowKit

/-- The positions with a key, the largest first. -/
def placesL (K : Nat) (B l : List Int) : List Int := if l.length = K then plN K B (nk K B) (pad l) else []

theorem keyS_key {K : Nat} {B l : List Int} {p : Nat} (hK : 1 ≤ K) (hB : ∀ x ∈ B, 0 ≤ x ∧ x ≤ 255) (hl : ∀ x ∈ l, 0 ≤ x ∧ x ≤ 255) (hlen : l.length = K) (hp : p < nk K B) : keyS K B (p : Int) = strOfNums l ↔ pad l = pad (keyAt K B p) := by
  have e1 : hasB (nk K B) (p : Int) = true := by simp [hasB]; omega
  simp only [keyS, e1, if_true, Int.toNat_natCast]
  constructor
  · intro h
    rw [strOfNums_inj (keyAt_bytes hB) hl h]
  · intro h
    rw [pad_inj (by rw [keyAt_len ((nk_iff hK).1 hp), hlen]) h]

set_option maxRecDepth 100000 in
set_option maxHeartbeats 2000000 in
theorem r_places (K : Nat) (v vl : Value) (B l : List Int) (w : World) (h : RdI .u8 w v B) (hl : RdI .u8 w vl l) (hf : Fine K B) (hb : ∀ x ∈ l, 0 ≤ x ∧ x ≤ 255) :
    Calls Try.prog 38 #[.agg #[.int .i64 (K : Int), v], vl] w fun e w' => ∃ v', e = .returned v' ∧ RdI .i64 w' v' (placesL K B l) ∧ Keeps w w' [] := by
  have hK := hf.k1
  have hK8 := hf.k8
  have hBl := hf.len
  obtain ⟨A, n, c, rfl, hn, -⟩ := h.form
  obtain ⟨A2, n2, c2, rfl, hn2, -⟩ := hl.form
  obtain ⟨j0, hj0, yz0, yz1, yz2⟩ := info_parts Try.infoInt
  have G := Lib.hid (fun w' (k : Keeps w w' []) (q : Int) => r_key K (.slice A n c) B q w' (h.keeps k) hK hK8 hBl)
  have bX := Blk.new w #[.int .i64 (K : Int), .slice A n c] 29
  have kX : Keeps w (w.alloc (.cells #[.int .i64 (K : Int), .slice A n c] 29)) [] := (Keeps.refl w []).alloc _
  have hST : Hid (∀ w', Keeps w w' [] → (convert 22 9 (.slice A2 n2 c2)).run Try.prog w' = .ok (.string (strOfNums l)) w') := fun w' k => str_of (hl.keeps k) Try.underlying22 Try.underlying5 Try.underlying9
  have HH := Lib.hid h
  by_cases hlen : n2 = K
  · have hfin : Hid (placesL K B l = plN K B (nk K B) (pad l)) := by show _ = _; rw [placesL, if_pos (by rw [← hn2]; exact hlen)]
    have hkn : nk K B = n + 1 - K := by unfold nk; omega
    have HL : Hid (l.length = K) := by show _ = _; omega
    obtain ⟨N, hN⟩ : ∃ N, N = nk K B := ⟨_, rfl⟩
    rw [← hN] at hfin hkn
    have HNK := Lib.hid hN
    have hnb : n ≤ 1000000 := by omega
    obtain ⟨g0, g1⟩ := (⟨bX.cell 0, bX.cell 1⟩ : _ ∧ _)
    clear h hn hl hn2 hN
    subst hlen
    go_enter Try.func38, Try.ntmps38
    go_wp2_with fail
    go_loopw [5, 6] (fun s5 s6 wr => ∃ (j : Nat) (pp : Int) (xs : List Int), j ≤ N ∧ s6 = .int .i64 pp ∧ (pp = (j : Int) - 1 ∨ (j = 0 ∧ pp < 0)) ∧ -1000000 ≤ pp ∧ wr.ownsRow (w.heap.size + 1) 3 1 s5 xs.length (xs.map (.int .i64)) ∧ Hid (xs ++ plN n2 B j (pad l) = plN n2 B N (pad l)) ∧ Blk wr w.heap.size #[.int .i64 (n2 : Int), .slice A n c] 29 ∧ Keeps w wr []) (fun _ s6 _ => (intOf s6 + 1).toNat)
    case atStart => exact ⟨N, _, [], Nat.le_refl _, rfl, by omega, by omega, World.ownsRow_nil _ _ _ _, rfl, bX, kX⟩
    case round =>
      obtain ⟨j, pp, xs, hj, rfl, hpp, hpl0, own, hxs, bq, kq⟩ := hrel
      have hxl : xs.length ≤ N := by
        have h1 := congrArg List.length hxs.out
        rw [List.length_append] at h1
        have h2 := plN_len n2 B N (pad l)
        omega
      obtain ⟨d0, d1⟩ := (⟨bq.cell 0, bq.cell 1⟩ : _ ∧ _)
      cases j with
      | zero =>
        have hx0 : Hid (xs = plN n2 B N (pad l)) := by show _ = _; rw [← hxs.out]; simp [plN]
        obtain ⟨ax, cx, rfl⟩ := own_form own
        have hd0 : pp < 0 := by omega
        have hd : decide ((0 : Int) ≤ pp) = false := decide_eq_false (by omega)
        clear hxs hpp
        go_wp2_with fail
        go_ret
        exact ⟨_, rfl, by rw [hfin.out, ← hx0.out]; exact own_reads own, kq⟩
      | succ m =>
        obtain rfl : pp = (m : Int) := by omega
        have hm0 : (0 : Int) ≤ (m : Int) := Int.natCast_nonneg _
        have hmq : m < N := by omega
        have G2 := G.out wr kq (m : Int)
        have hhm : hasB (nk n2 B) (m : Int) = true := by have := HNK.out; simp [hasB]; omega
        rw [hhm] at G2
        have HG2 := Lib.hid G2
        have hke := keyS_key (p := m) (l := l) hK hf.bytes hb HL.out (by have := HNK.out; omega)
        obtain ⟨Sm, hSm⟩ : ∃ Sm, Sm = keyS n2 B (m : Int) := ⟨_, rfl⟩
        rw [← hSm] at HG2 hke
        have hst : ∀ w', Keeps w w' [] → (convert 22 9 (.slice A2 n2 c2)).run Try.prog w' = .ok (.string (strOfNums l)) w' := hST.out
        obtain ⟨Sq, hSq⟩ : ∃ Sq, Sq = strOfNums l := ⟨_, rfl⟩
        rw [← hSq] at hke hst
        have HKE := Lib.hid hke
        have HST2 := Lib.hid hst
        clear G2 hhm hSm hSq hke hpp hst
        by_cases hs : Sm = Sq
        · have hpl : Hid (plN n2 B (m + 1) (pad l) = (m : Int) :: plN n2 B m (pad l)) := by show _ = _; rw [plN, if_pos (HKE.out.1 hs)]
          go_wp2_with (first | (go_at_call 32; refine HG2.out.mono ?_; rintro e w2 ⟨rfl, k2⟩; have own2 := (own_keeps own k2).alloc (.cells #[.int .i64 (m : Int)] 3); have hcv := HST2.out w2 (kq.then k2)) | (at_builtin; refine wpList_append_own _ rfl (.tmp 36) (.tmp 38) 37 rfl (w.heap.size + 1) 3 j0 (.int .i64 0) 1 8 Try.underlying37 hj0 yz0 yz1 yz2 rfl (by decide) u5 xs.length (xs.map (.int .i64)) rfl own2 ⟨w2.heap.size, 0, none⟩ 1 1 [.int .i64 (m : Int)] rfl rfl (cell_one_new _ _ _) (by simp [Value.oneCell']) (by unfold maxLen; omega) (by omega) (by have := bq.lt; have := k2.size; simp; omega) ?_; intro v3 w3 own3 hg3 _))
          have k3 : Keeps w2 w3 u5.ownBlock.toList := ((Keeps.refl w2 _).alloc _).trans (Keeps.of_grown (S := u5.ownBlock.toList) hg3 (fun x hx => by simpa using hx)) (fun x hx _ => hx)
          have hlow : ∀ x ∈ u5.ownBlock.toList, w.heap.size < x := fun x hx => (own.lt x (by simpa using hx)).1
          have b3 := (bq.keeps k2 (by simp)).keeps k3 (fun hm => by have := hlow _ hm; omega)
          have kq3 : Keeps w w3 [] := (kq.then k2).trans k3 (fun x hx hlt => by have := hlow x hx; omega)
          go_roundw
          case rel => exact ⟨m, _, xs ++ [(m : Int)], by omega, rfl, .inl rfl, by omega, by rw [List.length_append, List.map_append]; exact own3, by show _ = _; rw [List.append_assoc, List.singleton_append, ← hpl.out]; exact hxs.out, b3, kq3⟩
          case measure => first | (simp [intOf]; done) | (simp [intOf]; omega)
        · have hpl : Hid (plN n2 B (m + 1) (pad l) = plN n2 B m (pad l)) := by show _ = _; rw [plN, if_neg (fun h => hs (HKE.out.2 h))]
          have hs2 : (Sm.toList == Sq.toList) = false := str_ne hs
          go_wp2_with (go_at_call 32; refine HG2.out.mono ?_; rintro e w2 ⟨rfl, k2⟩; have hcv := HST2.out w2 (kq.then k2))
          go_roundw
          case rel => exact ⟨m, _, xs, by omega, rfl, .inl rfl, by omega, own_keeps own k2, by show _ = _; rw [← hpl.out]; exact hxs.out, bq.keeps k2 (by simp), kq.then k2⟩
          case measure => first | (simp [intOf]; done) | (simp [intOf]; omega)
  · have hfin : Hid (placesL K B l = []) := by show _ = _; rw [placesL, if_neg (by rw [← hn2]; exact hlen)]
    have hne : ((n2 : Int) == (K : Int)) = false := by simp; omega
    have hnb : n ≤ 1000000 := by omega
    obtain ⟨g0, g1⟩ := (⟨bX.cell 0, bX.cell 1⟩ : _ ∧ _)
    clear h hn hl hn2
    go_enter Try.func38, Try.ntmps38
    go_wp2_with fail
    refine wp_loop_rounds 1 ?_
    rw [rounds_succ]
    go_wp2_with fail
    all_goals
      go_ret
      exact ⟨_, rfl, by rw [hfin.out]; exact RdI.nil, kX⟩

end Go.Proofs.Yticlhaofmcajpaa
