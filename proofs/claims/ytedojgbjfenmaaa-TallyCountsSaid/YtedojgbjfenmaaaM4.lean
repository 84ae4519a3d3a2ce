/-
  The law on histograms of cut slices: its walk.
-/
import Derived.Test.YtedojgbjfenmaaaU4
import Derived.Test.YtedojgbjfenmaaaU5
import Derived.Test.YtedojgbjfenmaaaAp
import Derived.Test.YtedojgbjfenmaaaStr
namespace Go.Proofs.Ytedojgbjfenmaaa
set_option linter.unusedVariables false
set_option linter.unusedSimpArgs false
set_option linter.unusedSectionVars false
open Go.RowKit

theorem Try.infoBytes : (Try.prog.info? 22).map (fun i => (i.zero, i.size, i.bytes)) = some (some (.slice none 0 0), 1, 24) := by kernel_rfl
theorem Try.infoByte : (Try.prog.info? 5).map (fun i => (i.zero, i.size, i.bytes)) = some (some (.int .u8 0), 1, 1) := by kernel_rfl

theorem cell_one_slice (w : World) (v : Value) (T : TypeId) : ∀ j u, [v][j]? = some u → (w.alloc (.cells #[v] T)).cell? ((⟨w.heap.size, 0, none⟩ : Addr).add j) = some u := by
  intro j u hj
  match j, hj with
  | 0, hj =>
    simp at hj
    subst hj
    have h0 : (⟨w.heap.size, 0, none⟩ : Addr).add 0 = ⟨w.heap.size, 0, none⟩ := by simp [Addr.add]
    rw [h0]
    exact (Blk.new w #[v] T).cell 0

set_option maxHeartbeats 4000000 in
theorem law_counts (v1 v2 : Value) (l cuts : List Int) (w : World) (h1 : RdI .u8 w v1 l) (h2 : RdI .u8 w v2 cuts) (hb1 : ∀ x ∈ l, 0 ≤ x ∧ x ≤ 255) (hb2 : ∀ x ∈ cuts, 0 ≤ x ∧ x ≤ 255) :
    Calls Try.prog 3 #[v1, v2] w (LawEnd w) := by
  obtain ⟨A1, n, c1, rfl, hn1, -⟩ := h1.form
  obtain ⟨A2, m, c2, rfl, hn2, -⟩ := h2.form
  by_cases hg1 : 700 < n
  · clear h1 h2 hn1 hn2 hb1 hb2
    have h1 : (700 : Int) < (n : Int) := by omega
    go_enter Try.func3, Try.ntmps3
    go_wp2_with (go_at_call 13; refine (works_true _).mono ?_; rintro e w5 ⟨rfl, kk⟩)
    go_ret
    exact ⟨rfl, kk.below⟩
  have hd1 : decide ((700 : Int) < (n : Int)) = false := by simp; omega
  by_cases hg2 : 40 < m
  · clear h1 h2 hn1 hn2 hb1 hb2
    have h1 : (40 : Int) < (m : Int) := by omega
    go_enter Try.func3, Try.ntmps3
    go_wp2_with (go_at_call 13; refine (works_true _).mono ?_; rintro e w5 ⟨rfl, kk⟩)
    go_ret
    exact ⟨rfl, kk.below⟩
  have hd2 : decide ((40 : Int) < (m : Int)) = false := by simp; omega
  have hn7 : n ≤ 700 := by omega
  have hm4 : m ≤ 40 := by omega
  obtain ⟨i0, hi, hz0, hz1, hz2⟩ := info_parts Try.infoByte
  obtain ⟨i1, hi', hz0', hz1', hz2'⟩ := info_parts Try.infoBytes
  have H1 := Lib.hid h1
  have H2 := Lib.hid h2
  have HN1 := Lib.hid hn1
  have HN2 := Lib.hid hn2
  have HB1 := Lib.hid hb1
  have HB2 := Lib.hid hb2
  clear h1 h2 hn1 hn2 hg1 hg2 hb1 hb2
  go_enter Try.func3, Try.ntmps3
  go_wp2_with (refine wpList_copyI rfl rfl rfl 22 5 _ _ _ rfl rfl rfl i0 (.int .u8 0) 1 Try.underlying22 hi hz0 hz1 hz2 rfl (.slice A1 n c1) (fun _ => rfl) (fun _ => rfl) (fun _ => rfl) .u8 l H1.out (by rw [← HN1.out]; unfold maxLen; omega) (by rw [← HN1.out]; omega) ?_; intro v0 vc wa owna ka nea; obtain ⟨ac, cc, rfl⟩ := own_form owna; rw [← HN1.out] at owna nea ⊢)
  obtain ⟨gc, rfl, hgc⟩ : ∃ g, ac = some ⟨g, 0, none⟩ ∧ w.heap.size ≤ g := by
    rcases owna.2 with ⟨h1, h2⟩ | ⟨g, cap, cur, h1, h2, -⟩
    · exact (nea h1).elim
    · cases h1; exact ⟨_, rfl, h2⟩
  have rc : RdI .u8 wa (.slice (some ⟨gc, 0, none⟩) n cc) l := own_reads (by rw [← HN1.out]; exact owna)
  have hcc := rc.cap
  have HRC := Lib.hid rc
  have HKA := Lib.hid ka
  clear owna nea rc ka
  go_loopw [6, 7, 8] (fun s6 s7 s8 wr => ∃ (j at' : Nat) (vs : List Value) (ls : List (List Int)), j ≤ m ∧ at' ≤ n ∧ s8 = .int .i64 j ∧ s7 = .int .i64 at' ∧ Hid (vs.length = j) ∧ Hid (ls.flatten = l.take at') ∧ Hid (RdV .u8 wa vs ls) ∧
      wr.ownsRow wa.heap.size 22 1 s6 j vs ∧ Keeps wa wr []) (fun _ _ s8 _ => m - (intOf s8).toNat)
  case atStart => exact ⟨0, 0, [], [], Nat.zero_le _, Nat.zero_le _, rfl, rfl, rfl, rfl, RdV.nil, World.ownsRow_nil _ _ _ _, Keeps.refl _ _⟩
  case round =>
    obtain ⟨j, at', vs, ls, hj, hat, rfl, rfl, hvs, hls, hrd, own, kk⟩ := hrel
    by_cases hlt : j < m
    · obtain ⟨c, hc⟩ : ∃ c, cuts[j]? = some c := ⟨_, List.getElem?_eq_getElem (by have := HN2.out; omega)⟩
      have hcb := HB2.out c (List.mem_of_getElem? hc)
      obtain ⟨c, rfl⟩ := Int.eq_ofNat_of_zero_le hcb.1
      obtain ⟨b2, o2, rfl, hb2', hc2⟩ := (H2.out.keeps (HKA.out.then kk)).at hc
      have hcap2 := H2.out.cap
      obtain ⟨K, hK⟩ : ∃ K : Nat, K = min (c % 60) (n - at') := ⟨_, rfl⟩
      have hKn : at' + K ≤ n := by omega
      have hK1 : min ((c : Int) % 60) ((n : Int) - (at' : Int)) = (K : Int) := by omega
      have hj1 : (j : Int) < (m : Int) := by omega
      have hj0 : (0 : Int) ≤ (j : Int) := Int.natCast_nonneg _
      have ha0 : (0 : Int) ≤ (at' : Int) := Int.natCast_nonneg _
      have hK0 : (0 : Int) ≤ (K : Int) := Int.natCast_nonneg _
      clear hc hK
      by_cases hca : cc = at'
      · subst hca
        obtain rfl : K = 0 := by omega
        go_wp2_with (first | (at_builtin; refine (wpList_append_own _ rfl _ _ 24 rfl wa.heap.size 22 i1 (.slice none 0 0) 1 24 Try.underlying24 hi' hz0' hz1' hz2' rfl (by decide) u6 j vs rfl (own.alloc _) ⟨wr.heap.size, 0, none⟩ 1 1 [Value.slice (some ⟨gc, 0, none⟩) 0 0] rfl rfl (cell_one_slice _ _ _) (by simp [Value.oneCell']) (by unfold maxLen; omega) (by omega) (by have := kk.size; simp; omega) ?_); intro v5 w5 hown5 hg5 _))
        have kg : Keeps wa w5 [] := by
          refine Keeps.trans (kk.alloc _) (Keeps.of_grown (S := u6.ownBlock.toList) hg5 (fun q hq => by simpa using hq)) (fun q hq hlt2 => ?_)
          have hq' : u6.ownBlock = some q := by simpa using hq
          have := (own.lt q hq').1
          omega
        go_roundw
        case rel =>
          refine ⟨j + 1, cc + 0, vs ++ [Value.slice (some ⟨gc, 0, none⟩) 0 0], ls ++ [(l.drop cc).take 0], by omega, hKn, by go_num, by go_num, ?_, ?_, ?_, by simpa using hown5, kg⟩
          · show _ = _; rw [List.length_append, hvs.out]; rfl
          · show _ = _; rw [List.flatten_append, hls.out]; simp [List.take_add]
          · exact hrd.out.snoc (by rw [List.take_zero]; exact RdI.zero _ _)
        case measure => simp [intOf]; omega
      · have hca' : ¬ cc = at' := hca
        go_wp2_with (first | (at_builtin; refine (wpList_append_own _ rfl _ _ 24 rfl wa.heap.size 22 i1 (.slice none 0 0) 1 24 Try.underlying24 hi' hz0' hz1' hz2' rfl (by decide) u6 j vs rfl (own.alloc _) ⟨wr.heap.size, 0, none⟩ 1 1 [Value.slice (some ⟨gc, at', none⟩) K (cc - at')] rfl rfl (cell_one_slice _ _ _) (by simp [Value.oneCell']) (by unfold maxLen; omega) (by omega) (by have := kk.size; simp; omega) ?_); intro v5 w5 hown5 hg5 _))
        have kg : Keeps wa w5 [] := by
          refine Keeps.trans (kk.alloc _) (Keeps.of_grown (S := u6.ownBlock.toList) hg5 (fun q hq => by simpa using hq)) (fun q hq hlt2 => ?_)
          have hq' : u6.ownBlock = some q := by simpa using hq
          have := (own.lt q hq').1
          omega
        go_roundw
        case rel =>
          refine ⟨j + 1, at' + K, vs ++ [Value.slice (some ⟨gc, at', none⟩) K (cc - at')], ls ++ [(l.drop at').take K], by omega, hKn, by go_num, by go_num, ?_, ?_, ?_, by simpa using hown5, kg⟩
          · show _ = _; rw [List.length_append, hvs.out]; rfl
          · show _ = _; rw [List.flatten_append, hls.out]; simp [List.take_add]
          · exact hrd.out.snoc (by have := HRC.out.piece hKn (cc - at') (by omega); rwa [Nat.zero_add] at this)
        case measure => simp [intOf]; omega
    · have : j = m := by omega
      subst this
      have hwk := kk.size
      by_cases hca : cc = at'
      · obtain rfl : n = cc := by omega
        subst hca
        have hp : RdI .u8 wa (Value.slice (some ⟨gc, 0, none⟩) 0 0) (l.drop n) := (by have h0 := HN1.out; rw [List.drop_eq_nil_of_le (by omega)]; exact RdI.zero _ _)
        have hfl : Hid ((ls ++ [l.drop n]).flatten = l) := by
          show _ = _
          rw [List.flatten_append, hls.out]; simp
        obtain ⟨LS, hLS⟩ : ∃ LS, LS = ls ++ [l.drop n] := ⟨_, rfl⟩
        have hLlen : Hid (LS.length ≤ 1000000) := by
          show _ ≤ _
          have := hrd.out.1; have := hvs.out
          rw [hLS]; simp; omega
        rw [← hLS] at hfl
        have HLS := Lib.hid hLS
        clear hLS
        go_wp2_with (first | (at_builtin; refine (wpList_append_own _ rfl _ _ 24 rfl wa.heap.size 22 i1 (.slice none 0 0) 1 24 Try.underlying24 hi' hz0' hz1' hz2' rfl (by decide) u6 j vs rfl (own.alloc _) ⟨wr.heap.size, 0, none⟩ 1 1 [Value.slice (some ⟨gc, 0, none⟩) 0 0] rfl rfl (cell_one_slice _ _ _) (by simp [Value.oneCell']) (by unfold maxLen; omega) (by omega) (by have := kk.size; simp; omega) ?_); intro v5 w5 hown5 hg5 _; have hlv : (vs ++ [Value.slice (some ⟨gc, 0, none⟩) 0 0]).length = j + 1 := (by rw [List.length_append, hvs.out]; rfl); rw [← hlv] at hown5; have hRL := own_readsL hown5 ((hrd.out.snoc hp).keeps (Keeps.trans (kk.alloc _) (Keeps.of_grown (S := u6.ownBlock.toList) hg5 (fun q hq => by simpa using hq)) (fun q hq hlt2 => by have hq' : u6.ownBlock = some q := (by simpa using hq); have := (own.lt q hq').1; omega))); have kg : Keeps wa w5 [] := Keeps.trans (kk.alloc _) (Keeps.of_grown (S := u6.ownBlock.toList) hg5 (fun q hq => by simpa using hq)) (fun q hq hlt2 => by have hq' : u6.ownBlock = some q := (by simpa using hq); have := (own.lt q hq').1; omega); obtain ⟨a5, n5, c5, rfl, -⟩ := hRL.form; have HRL := Lib.hid hRL; clear hRL hown5 hg5 hlv))
        rw [← HLS.out] at HRL
        have hmem : ∀ l' ∈ LS, ∀ x ∈ l', x ∈ l := fun l' hl' x hx => by rw [← hfl.out]; exact List.mem_flatten.2 ⟨l', hl', hx⟩
        have HMEM := Lib.hid hmem
        have hpl : Hid (∀ l' ∈ LS, l'.length ≤ 1000000) := fun l' hl' => by
          have h3 : l'.length ≤ LS.flatten.length := by
            obtain ⟨s, t, e⟩ := List.append_of_mem hl'
            rw [e]; simp; omega
          rw [hfl.out, ← HN1.out] at h3; omega
        clear hmem hp
        refine (hist_call _ LS w5 HRL.out (fun l' hl' x hx => HB1.out x (HMEM.out l' hl' x hx)) hLlen.out hpl.out).mono ?_
        rintro e w6 ⟨v6, rfl, r6, k6⟩
        rw [hfl.out] at r6
        obtain ⟨a6, n6, c6, rfl, -⟩ := r6.form
        have R6 := Lib.hid r6
        clear r6
        go_wp2_with fail
        refine (r_counts _ l w6 ((H1.out.keeps HKA.out).keeps (kg.then k6)) HB1.out (by rw [← HN1.out]; omega)).mono ?_
        rintro e w7 ⟨v7, rfl, r7, k7⟩
        obtain ⟨a7, n7, c7, rfl, -⟩ := r7.form
        have R7 := Lib.hid r7
        clear r7
        go_wp2_with fail
        refine (same_yes _ _ (histL l) _ (R6.out.keeps k7) R7.out (by unfold histL; rw [histF_len, List.length_replicate]; decide)).mono ?_
        rintro e w8 ⟨rfl, nd, rfl⟩
        have kx := (kg.then k6).then k7
        have s1 := str_of (P := Try.prog) ((HRC.out.keeps kx).drewN nd) Try.underlying22 Try.underlying5 Try.underlying9
        have s2 := str_of (P := Try.prog) (((H1.out.keeps HKA.out).keeps kx).drewN nd) Try.underlying22 Try.underlying5 Try.underlying9
        generalize strOfNums l = SL at *
        go_wp2_with (go_at_call 13; refine (works_true _).mono ?_; rintro e w5 ⟨rfl, kk⟩)
        go_ret
        exact ⟨rfl, (((HKA.out.then kx).drewN nd).then ‹Keeps _ _ []›).below⟩
      · have hca' : ¬ cc = at' := hca
        have hp : RdI .u8 wa (Value.slice (some ⟨gc, at', none⟩) (n - at') (cc - at')) (l.drop at') := (by have h0 := HN1.out; have h1 := HRC.out.piece (p := at') (q := n - at') (by omega) (cc - at') (by omega); rw [Nat.zero_add, List.take_of_length_le (by simp; omega)] at h1; exact h1)
        have hfl : Hid ((ls ++ [l.drop at']).flatten = l) := by
          show _ = _
          rw [List.flatten_append, hls.out]; simp
        obtain ⟨LS, hLS⟩ : ∃ LS, LS = ls ++ [l.drop at'] := ⟨_, rfl⟩
        have hLlen : Hid (LS.length ≤ 1000000) := by
          show _ ≤ _
          have := hrd.out.1; have := hvs.out
          rw [hLS]; simp; omega
        rw [← hLS] at hfl
        have HLS := Lib.hid hLS
        clear hLS
        go_wp2_with (first | (at_builtin; refine (wpList_append_own _ rfl _ _ 24 rfl wa.heap.size 22 i1 (.slice none 0 0) 1 24 Try.underlying24 hi' hz0' hz1' hz2' rfl (by decide) u6 j vs rfl (own.alloc _) ⟨wr.heap.size, 0, none⟩ 1 1 [Value.slice (some ⟨gc, at', none⟩) (n - at') (cc - at')] rfl rfl (cell_one_slice _ _ _) (by simp [Value.oneCell']) (by unfold maxLen; omega) (by omega) (by have := kk.size; simp; omega) ?_); intro v5 w5 hown5 hg5 _; have hlv : (vs ++ [Value.slice (some ⟨gc, at', none⟩) (n - at') (cc - at')]).length = j + 1 := (by rw [List.length_append, hvs.out]; rfl); rw [← hlv] at hown5; have hRL := own_readsL hown5 ((hrd.out.snoc hp).keeps (Keeps.trans (kk.alloc _) (Keeps.of_grown (S := u6.ownBlock.toList) hg5 (fun q hq => by simpa using hq)) (fun q hq hlt2 => by have hq' : u6.ownBlock = some q := (by simpa using hq); have := (own.lt q hq').1; omega))); have kg : Keeps wa w5 [] := Keeps.trans (kk.alloc _) (Keeps.of_grown (S := u6.ownBlock.toList) hg5 (fun q hq => by simpa using hq)) (fun q hq hlt2 => by have hq' : u6.ownBlock = some q := (by simpa using hq); have := (own.lt q hq').1; omega); obtain ⟨a5, n5, c5, rfl, -⟩ := hRL.form; have HRL := Lib.hid hRL; clear hRL hown5 hg5 hlv))
        rw [← HLS.out] at HRL
        have hmem : ∀ l' ∈ LS, ∀ x ∈ l', x ∈ l := fun l' hl' x hx => by rw [← hfl.out]; exact List.mem_flatten.2 ⟨l', hl', hx⟩
        have HMEM := Lib.hid hmem
        have hpl : Hid (∀ l' ∈ LS, l'.length ≤ 1000000) := fun l' hl' => by
          have h3 : l'.length ≤ LS.flatten.length := by
            obtain ⟨s, t, e⟩ := List.append_of_mem hl'
            rw [e]; simp; omega
          rw [hfl.out, ← HN1.out] at h3; omega
        clear hmem hp
        refine (hist_call _ LS w5 HRL.out (fun l' hl' x hx => HB1.out x (HMEM.out l' hl' x hx)) hLlen.out hpl.out).mono ?_
        rintro e w6 ⟨v6, rfl, r6, k6⟩
        rw [hfl.out] at r6
        obtain ⟨a6, n6, c6, rfl, -⟩ := r6.form
        have R6 := Lib.hid r6
        clear r6
        go_wp2_with fail
        refine (r_counts _ l w6 ((H1.out.keeps HKA.out).keeps (kg.then k6)) HB1.out (by rw [← HN1.out]; omega)).mono ?_
        rintro e w7 ⟨v7, rfl, r7, k7⟩
        obtain ⟨a7, n7, c7, rfl, -⟩ := r7.form
        have R7 := Lib.hid r7
        clear r7
        go_wp2_with fail
        refine (same_yes _ _ (histL l) _ (R6.out.keeps k7) R7.out (by unfold histL; rw [histF_len, List.length_replicate]; decide)).mono ?_
        rintro e w8 ⟨rfl, nd, rfl⟩
        have kx := (kg.then k6).then k7
        have s1 := str_of (P := Try.prog) ((HRC.out.keeps kx).drewN nd) Try.underlying22 Try.underlying5 Try.underlying9
        have s2 := str_of (P := Try.prog) (((H1.out.keeps HKA.out).keeps kx).drewN nd) Try.underlying22 Try.underlying5 Try.underlying9
        generalize strOfNums l = SL at *
        go_wp2_with (go_at_call 13; refine (works_true _).mono ?_; rintro e w5 ⟨rfl, kk⟩)
        go_ret
        exact ⟨rfl, (((HKA.out.then kx).drewN nd).then ‹Keeps _ _ []›).below⟩

end Go.Proofs.Ytedojgbjfenmaaa
