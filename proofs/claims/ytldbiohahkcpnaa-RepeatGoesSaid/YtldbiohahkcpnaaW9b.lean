/-
  Walks over package repeat: each at Seq.
-/
import Derived.Test.YtldbiohahkcpnaaW9
namespace Go.Proofs.Ytldbiohahkcpnaa
set_option linter.unusedVariables false
set_option linter.unusedSimpArgs false
set_option linter.unusedSectionVars false
open Go.RowKit

set_option maxHeartbeats 1000000 in
theorem each_vals (s : Nat) (a0 b0 c0 : Int) (l : List I3) (v : Value) (w : World) (hs : Blk w s #[.int .i64 a0, .int .i64 b0, .int .i64 c0] 62)
    (hr : rightB a0 b0 c0 = true) (hv : Reads3 w v l) (hsv : ∀ a n cp, v = .slice (some a) n cp → 0 < n → a.block ≠ s) (hn : l.length ≤ 1000000)
    :
    Calls Try.prog 40 #[.func (.func 34) #[.pointer (some ⟨s, 0, none⟩)] #[], v] w (EachEnd w s 24 (valsL a0 b0 c0 l)) := by
  obtain ⟨A0, n, cp0, rfl, hnl, hcells⟩ := hv.form
  obtain ⟨i0, hi, hz0, hz1, hz2⟩ := info_parts Try.infoRaw
  have HS := Lib.hid (hs.lt)
  have HR := Lib.hid hr
  have HN := Lib.hid hnl
  have HC := Lib.hid hcells
  have HV := Lib.hid hsv
  have hn' : n ≤ 1000000 := by omega
  clear hr hnl hcells hsv hv
  go_enter Try.func40, Try.ntmps40
  go_wp2
  go_loopw [4, 5] (fun x r wr => ∃ (k : Nat) (out : List I3) (a b c : Int) (A : Option Addr) (cp : Nat), k ≤ n ∧ r = .slice A (n - k) cp ∧
      (k < n → n - k ≤ cp ∧ ∃ b o, A0 = some ⟨b, o, none⟩ ∧ A = some ⟨b, o + 3 * k, none⟩) ∧ out.length = k ∧ Hid (valsL a0 b0 c0 l = Res.pushAll out (valsL a b c (l.drop k))) ∧ Hid (rightB a b c = true) ∧
      Blk wr s #[.int .i64 a, .int .i64 b, .int .i64 c] 62 ∧ wr.ownsRow w.heap.size 24 3 x k (cellsL out) ∧ Keeps w wr [s]) (fun _ r _ => slLen r)
  case atStart =>
    refine ⟨0, [], a0, b0, c0, A0, cp0, by omega, by simp, ?_, rfl, by rw [List.drop_zero, Res.pushAll_nil]; exact rfl, HR, hs, World.ownsRow_nil _ _ _ _, Keeps.refl _ _⟩
    intro h
    obtain ⟨h1, b, o, h2, _⟩ := HC.out h
    exact ⟨by omega, b, o, h2, by simpa using h2⟩
  case round =>
    obtain ⟨k, out, a, b, c, A, cp, hk, rfl, hA, hout, hres, hright, s1, hown, k1⟩ := hrel
    by_cases hlt : k < n
    · obtain ⟨hcp, b', o, rfl, rfl⟩ := hA hlt
      obtain ⟨-, b2, o2, he, hbl, hcc⟩ := HC.out (by omega)
      obtain ⟨rfl, rfl⟩ : b' = b2 ∧ o = o2 := by simpa using he
      have hne : b' ≠ s := HV.out _ n cp0 rfl (by omega)
      have hkl : k < l.length := by have := HN.out; omega
      obtain ⟨⟨lit, len, v⟩, hx⟩ : ∃ x, l[k]? = some x := ⟨_, List.getElem?_eq_getElem hkl⟩
      have hdrop : l.drop k = (lit, len, v) :: l.drop (k + 1) := by
        rw [List.drop_eq_getElem_cons hkl]
        rw [List.getElem?_eq_getElem hkl] at hx
        rw [Option.some.inj hx]
      have hg := cellsL_get l k _ hx
      have e0 : wr.cell? ⟨b', o + 3 * k, none⟩ = some (.int .i64 lit) := by
        rw [k1.cell hbl (by simpa using hne), hcc (3 * k) (by omega)]; exact hg.1
      have e1 : wr.cell? ⟨b', o + 3 * k + 1, none⟩ = some (.int .i64 len) := by
        rw [Nat.add_assoc, k1.cell hbl (by simpa using hne), hcc (3 * k + 1) (by omega)]; exact hg.2.1
      have e2 : wr.cell? ⟨b', o + 3 * k + 2, none⟩ = some (.int .i64 v) := by
        rw [Nat.add_assoc, k1.cell hbl (by simpa using hne), hcc (3 * k + 2) (by omega)]; exact hg.2.2
      have HK := Lib.hid k1
      have HO := Lib.hid hout
      have HD := Lib.hid hdrop
      clear hg hcc hx he hA hdrop hout k1
      have h0 : 0 < n - k := by omega
      have hleft : 1 ≤ n - k := by omega
      go_wp2_with fail
      cases hF : vfFine a b c lit v with
      | false =>
        have hend : valsL a0 b0 c0 l = .bad 2 := by
          rw [hres.out, HD.out]; simp [valsL, hF, Res.pushAll]
        have hG : Calls Try.prog 34 #[.pointer (some ⟨s, 0, none⟩), .agg #[.int .i64 lit, .int .i64 len, .int .i64 v]] wr fun e w' =>
            e = .panicked [raisedBy 2 false] ∧ Keeps wr w' [] := finds_arg s a b c lit len v wr s1 hF
        refine hG.mono ?_
        rintro e w4 ⟨rfl, kk⟩
        have k4 := (HK.out).then kk
        clear hG
        go_wp2_with fail
        refine ⟨rfl, ?_⟩
        rw [hend]
        exact ⟨rfl, k4⟩
      | true =>
        have hF' := hF
        simp only [vfFine, Bool.and_eq_true, decide_eq_true_eq] at hF'
        obtain ⟨-, hl0, hin⟩ := hF'
        obtain ⟨hi1, hi2⟩ := inW_bd hin
        refine (finds_ok s a b c lit len v wr s1 hright.out hl0 hi1 hi2).mono ?_
        rintro e w4 ⟨rfl, s4, kk⟩
        have hown4 : w4.ownsRow w.heap.size 24 3 u4 k (cellsL out) := hown.kept kk.grown1 (.inr (fun he => by have := (hown.lt s he).1; have := HS.out; omega))
        have k4 : Keeps w w4 [s] := (HK.out).trans kk (fun x hx _ => hx)
        have hres4 : Hid (valsL a0 b0 c0 l = Res.pushAll (out ++ [(lit, len, valV a b c lit v)]) (valsL v (updB a b (toldK lit (valV a b c lit v))) (updC b c (toldK lit (valV a b c lit v))) (l.drop (k + 1)))) := by
          show _ = _
          rw [hres.out, HD.out, ← Res.pushAll_push]; simp [valsL, hF]
        have hright4 : Hid (rightB v (updB a b (toldK lit (valV a b c lit v))) (updC b c (toldK lit (valV a b c lit v))) = true) := upd_right hright.out hin
        generalize updB a b (toldK lit (valV a b c lit v)) = B' at *
        generalize updC b c (toldK lit (valV a b c lit v)) = C' at *
        generalize valV a b c lit v = O at *
        have hsz := k4.size
        clear e0 e1 e2 hF hin s1 hown hres hright kk
        go_wp2_with (first | (at_builtin; refine (wpList_append_own _ rfl (.tmp 16) (.tmp 22) 37 rfl w.heap.size 24 i0 (.agg #[.int .i64 0, .int .i64 0, .int .i64 0]) 3 24 Try.underlying37 hi hz0 hz1 hz2 rfl (by decide) u4 k (cellsL out) rfl (hown4.alloc _) ⟨w4.heap.size, 0, none⟩ 1 1 [.int .i64 lit, .int .i64 len, .int .i64 O] rfl rfl (three_new _ _ _ _ _) (by simp [Value.oneCell']) (by unfold maxLen; omega) (by omega) (by simp; omega) ?_); intro v5 w5 hown5 hg5 _))
        have s5 : Blk w5 s #[.int .i64 v, .int .i64 B', .int .i64 C'] 62 := (hg5.block s (by have := s4.lt; simp; omega) (fun he => by have := (hown4.lt s he.symm).1; have := HS.out; omega)).trans (s4.alloc _)
        have k5 : Keeps w w5 [s] := Keeps.trans (k4.alloc (.cells #[.int .i64 lit, .int .i64 len, .int .i64 O] 24)) (Keeps.of_grown (S := u4.ownBlock.toList) hg5 (fun x hx => by simp [hx])) (fun x hx hlt => by
          exfalso
          have hx' : u4.ownBlock = some x := by simpa using hx
          have := (hown4.lt x hx').1
          omega)
        refine ⟨⟨k + 1, out ++ [(lit, len, O)], v, B', C', _, _, by omega, by rw [show n - (k + 1) = n - k - 1 by omega], ?_, by simp [HO.out], hres4, hright4, s5, by rw [cellsL_snoc]; exact hown5, k5⟩, by simp [slLen]; omega⟩
        intro hk1
        refine ⟨by omega, b', o, rfl, ?_⟩
        rw [if_neg (by omega)]
        simp [show o + 3 * k + 3 = o + 3 * (k + 1) by omega]
    · have : k = n := by omega
      subst this
      simp only [Nat.sub_self]
      go_wp2
      go_ret
      have hd : l.drop k = [] := by have := HN.out; exact List.drop_eq_nil_of_le (by omega)
      have hq := hres.out
      rw [hd] at hq
      rw [hq]
      simp only [valsL, Res.pushAll, List.append_nil]
      exact ⟨_, rfl, by rw [hout]; exact hown, s1, k1⟩

end Go.Proofs.Ytldbiohahkcpnaa
