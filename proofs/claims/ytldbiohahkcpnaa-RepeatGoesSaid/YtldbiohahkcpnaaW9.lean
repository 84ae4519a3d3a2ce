/-
  Walks over package repeat: each, at Raw and at Seq.
-/
import Derived.Test.YtldbiohahkcpnaaW8
namespace Go.Proofs.Ytldbiohahkcpnaa
set_option linter.unusedVariables false
set_option linter.unusedSimpArgs false
set_option linter.unusedSectionVars false
open Go.RowKit

abbrev I3 := Int × Int × Int
def cells3 (x : I3) : List Value := [.int .i64 x.1, .int .i64 x.2.1, .int .i64 x.2.2]
def cellsL (l : List I3) : List Value := l.flatMap cells3
theorem cellsL_length (l : List I3) : (cellsL l).length = l.length * 3 := by
  induction l with
  | nil => rfl
  | cons x l ih => simp [cellsL, cells3, List.flatMap_cons] at *; omega
theorem cellsL_snoc (l : List I3) (x : I3) : cellsL (l ++ [x]) = cellsL l ++ cells3 x := by simp [cellsL, List.flatMap_append]
theorem cellsL_get (l : List I3) (k : Nat) (x : I3) (h : l[k]? = some x) :
    (cellsL l)[3 * k]? = some (.int .i64 x.1) ∧ (cellsL l)[3 * k + 1]? = some (.int .i64 x.2.1) ∧ (cellsL l)[3 * k + 2]? = some (.int .i64 x.2.2) := by
  induction l generalizing k with
  | nil => simp at h
  | cons y l ih =>
    cases k with
    | zero => simp at h; subst h; simp [cellsL, cells3, List.flatMap_cons]
    | succ k =>
      simp at h
      have := ih k h
      simp only [cellsL, List.flatMap_cons, cells3] at *
      refine ⟨?_, ?_, ?_⟩
      · rw [List.getElem?_append_right (by simp; omega)]; simpa [show 3 * (k + 1) - 3 = 3 * k from by omega] using this.1
      · rw [List.getElem?_append_right (by simp; omega)]; simpa [show 3 * (k + 1) + 1 - 3 = 3 * k + 1 from by omega] using this.2.1
      · rw [List.getElem?_append_right (by simp; omega)]; simpa [show 3 * (k + 1) + 2 - 3 = 3 * k + 2 from by omega] using this.2.2

/-- A slice value of n elements of three cells reads as a list. -/
structure Reads3 (w : World) (v : Value) (l : List I3) : Prop where
  form : ∃ a n cp, v = .slice a n cp ∧ n = l.length ∧ (0 < n → n ≤ cp ∧ ∃ b o, a = some ⟨b, o, none⟩ ∧ b < w.heap.size ∧ ∀ i, i < 3 * n → w.cell? ⟨b, o + i, none⟩ = (cellsL l)[i]?)

/-- What Offsets computes. -/
inductive Res where
  | fine (out : List I3) (a b c : Int)
  | bad (n : Int)
def Res.push (x : I3) : Res → Res
  | .fine out a b c => .fine (x :: out) a b c
  | .bad n => .bad n
def Res.pushAll (l : List I3) : Res → Res
  | .fine out a b c => .fine (l ++ out) a b c
  | .bad n => .bad n
theorem Res.pushAll_push (l : List I3) (x : I3) (r : Res) : Res.pushAll l (Res.push x r) = Res.pushAll (l ++ [x]) r := by
  cases r <;> simp [Res.pushAll, Res.push]
theorem Res.pushAll_nil (r : Res) : Res.pushAll [] r = r := by cases r <;> simp [Res.pushAll]
def offsL : Int → Int → Int → List I3 → Res
  | a, b, c, [] => .fine [] a b c
  | a, b, c, x :: l =>
    if ofFine a b c x.1 x.2.2 then Res.push (x.1, x.2.1, toldO a b c x.1 x.2.2) (offsL (toldO a b c x.1 x.2.2) (updB a b (toldK x.1 x.2.2)) (updC b c (toldK x.1 x.2.2)) l)
    else .bad (ofErr a b c x.1 x.2.2)
def valsL : Int → Int → Int → List I3 → Res
  | a, b, c, [] => .fine [] a b c
  | a, b, c, x :: l =>
    if vfFine a b c x.1 x.2.2 then Res.push (x.1, x.2.1, valV a b c x.1 x.2.2) (valsL x.2.2 (updB a b (toldK x.1 (valV a b c x.1 x.2.2))) (updC b c (toldK x.1 (valV a b c x.1 x.2.2))) l)
    else .bad 2

def EachEnd (w : World) (s : Nat) (T : TypeId) : Res → Ending → World → Prop
  | .fine out a b c, e, w' => ∃ v, e = .returned v ∧ w'.ownsRow w.heap.size T 3 v out.length (cellsL out) ∧ Blk w' s #[.int .i64 a, .int .i64 b, .int .i64 c] 62 ∧ Keeps w w' [s]
  | .bad n, e, w' => e = .panicked [raisedBy n false] ∧ Keeps w w' [s]

theorem upd_right {a b c k o : Int} (h : rightB a b c = true) (ho : inW o = true) : rightB o (updB a b k) (updC b c k) = true := by
  simp only [rightB, Bool.and_eq_true] at *
  obtain ⟨h1, h2, h3⟩ := h
  refine ⟨ho, ?_, ?_⟩
  · unfold updB; split <;> assumption
  · unfold updC; split
    · assumption
    · split <;> assumption

theorem Try.infoSeq : (Try.prog.info? 34).map (fun i => (i.zero, i.size, i.bytes)) = some (some (.agg #[.int .i64 0, .int .i64 0, .int .i64 0]), 3, 24) := by kernel_rfl
theorem Try.infoRaw : (Try.prog.info? 24).map (fun i => (i.zero, i.size, i.bytes)) = some (some (.agg #[.int .i64 0, .int .i64 0, .int .i64 0]), 3, 24) := by kernel_rfl

theorem Keeps.grown1 {w w' : World} {s : Nat} (h : Keeps w w' [s]) : w.grownBy w' (some s) := ⟨h.os, h.tape, h.output, h.size, fun k hk hn => h.block k hk (fun hm => hn (by simp at hm; rw [hm]))⟩
theorem three_new (w : World) (x y z : Value) (T : TypeId) : ∀ j u, [x, y, z][j]? = some u → (w.alloc (.cells #[x, y, z] T)).cell? ((⟨w.heap.size, 0, none⟩ : Addr).add j) = some u := by
  intro j u h
  have e : (⟨w.heap.size, 0, none⟩ : Addr).add j = ⟨w.heap.size, j, none⟩ := by unfold Addr.add; split <;> simp_all
  rw [e, (Blk.new w #[x, y, z] T).cell j]
  simpa using h

def slLen : Value → Nat | .slice _ n _ => n | _ => 0

set_option maxHeartbeats 1000000 in
theorem each_offs (s : Nat) (a0 b0 c0 : Int) (l : List I3) (v : Value) (w : World) (hs : Blk w s #[.int .i64 a0, .int .i64 b0, .int .i64 c0] 62)
    (hr : rightB a0 b0 c0 = true) (hv : Reads3 w v l) (hsv : ∀ a n cp, v = .slice (some a) n cp → 0 < n → a.block ≠ s) (hn : l.length ≤ 1000000)
    (hb : ∀ x ∈ l, x.2.2 ≤ 9223372036854775807) :
    Calls Try.prog 38 #[.func (.func 28) #[.pointer (some ⟨s, 0, none⟩)] #[], v] w (EachEnd w s 34 (offsL a0 b0 c0 l)) := by
  obtain ⟨A0, n, cp0, rfl, hnl, hcells⟩ := hv.form
  obtain ⟨i0, hi, hz0, hz1, hz2⟩ := info_parts Try.infoSeq
  have HS := Lib.hid (hs.lt)
  have HR := Lib.hid hr
  have HN := Lib.hid hnl
  have HC := Lib.hid hcells
  have HV := Lib.hid hsv
  have HB := Lib.hid hb
  have hn' : n ≤ 1000000 := by omega
  clear hr hnl hcells hsv hv hb
  go_enter Try.func38, Try.ntmps38
  go_wp2
  go_loopw [4, 5] (fun x r wr => ∃ (k : Nat) (out : List I3) (a b c : Int) (A : Option Addr) (cp : Nat), k ≤ n ∧ r = .slice A (n - k) cp ∧
      (k < n → n - k ≤ cp ∧ ∃ b o, A0 = some ⟨b, o, none⟩ ∧ A = some ⟨b, o + 3 * k, none⟩) ∧ out.length = k ∧ Hid (offsL a0 b0 c0 l = Res.pushAll out (offsL a b c (l.drop k))) ∧ Hid (rightB a b c = true) ∧
      Blk wr s #[.int .i64 a, .int .i64 b, .int .i64 c] 62 ∧ wr.ownsRow w.heap.size 34 3 x k (cellsL out) ∧ Keeps w wr [s]) (fun _ r _ => slLen r)
  case atStart =>
    refine ⟨0, [], a0, b0, c0, A0, cp0, by omega, by simp, ?_, rfl, by rw [List.drop_zero, Res.pushAll_nil]; exact rfl, HR, hs, World.ownsRow_nil _ _ _ _, Keeps.refl _ _⟩
    intro h
    obtain ⟨h1, b, o, h2, _⟩ := HC.out h
    exact ⟨by omega, b, o, h2, by simpa using h2⟩
  case round =>
    obtain ⟨k, out, a, b, c, A, cp, hk, rfl, hA, hout, hres, hright, s1, hown, k1⟩ := hrel
    by_cases hlt : k < n
    · obtain ⟨hcp, b', o, rfl, rfl⟩ := hA hlt
      obtain ⟨-, b2, o2, he, hbl, hcc⟩ := HC.out (by omega)
      obtain ⟨rfl, rfl⟩ : b' = b2 ∧ o = o2 := by simpa using he
      have hne : b' ≠ s := HV.out _ n cp0 rfl (by omega)
      have hkl : k < l.length := by have := HN.out; omega
      obtain ⟨⟨lit, len, v⟩, hx⟩ : ∃ x, l[k]? = some x := ⟨_, List.getElem?_eq_getElem hkl⟩
      have hdrop : l.drop k = (lit, len, v) :: l.drop (k + 1) := by
        rw [List.drop_eq_getElem_cons hkl]
        rw [List.getElem?_eq_getElem hkl] at hx
        rw [Option.some.inj hx]
      have hvb : v ≤ 9223372036854775807 := HB.out _ (List.mem_of_getElem? hx)
      have hg := cellsL_get l k _ hx
      have e0 : wr.cell? ⟨b', o + 3 * k, none⟩ = some (.int .i64 lit) := by
        rw [k1.cell hbl (by simpa using hne), hcc (3 * k) (by omega)]; exact hg.1
      have e1 : wr.cell? ⟨b', o + 3 * k + 1, none⟩ = some (.int .i64 len) := by
        rw [Nat.add_assoc, k1.cell hbl (by simpa using hne), hcc (3 * k + 1) (by omega)]; exact hg.2.1
      have e2 : wr.cell? ⟨b', o + 3 * k + 2, none⟩ = some (.int .i64 v) := by
        rw [Nat.add_assoc, k1.cell hbl (by simpa using hne), hcc (3 * k + 2) (by omega)]; exact hg.2.2
      have HK := Lib.hid k1
      have HO := Lib.hid hout
      have HD := Lib.hid hdrop
      clear hg hcc hx he hA hdrop hout k1
      have h0 : 0 < n - k := by omega
      have hleft : 1 ≤ n - k := by omega
      go_wp2_with fail
      cases hF : ofFine a b c lit v with
      | false =>
        have hend : offsL a0 b0 c0 l = .bad (ofErr a b c lit v) := by
          rw [hres.out, HD.out]; simp [offsL, hF, Res.pushAll]
        have hG : Calls Try.prog 28 #[.pointer (some ⟨s, 0, none⟩), .agg #[.int .i64 lit, .int .i64 len, .int .i64 v]] wr fun e w' =>
            e = .panicked [raisedBy (ofErr a b c lit v) false] ∧ Keeps wr w' [] := goes_bad s a b c lit len v wr s1 hvb hF
        refine hG.mono ?_
        rintro e w4 ⟨rfl, kk⟩
        have k4 := (HK.out).then kk
        clear hG
        go_wp2_with fail
        refine ⟨rfl, ?_⟩
        rw [hend]
        exact ⟨rfl, k4⟩
      | true =>
        have hF' := hF
        simp only [ofFine, Bool.and_eq_true, decide_eq_true_eq] at hF'
        obtain ⟨-, hl0, hv0, hin⟩ := hF'
        obtain ⟨hi1, hi2⟩ := inW_bd hin
        refine (goes_ok s a b c lit len v wr s1 (rightB_lo hright.out).1 (rightB_lo hright.out).2 hright.out hl0 hv0 hvb hi1 hi2).mono ?_
        rintro e w4 ⟨rfl, s4, kk⟩
        have hown4 : w4.ownsRow w.heap.size 34 3 u4 k (cellsL out) := hown.kept kk.grown1 (.inr (fun he => by have := (hown.lt s he).1; have := HS.out; omega))
        have k4 : Keeps w w4 [s] := (HK.out).trans kk (fun x hx _ => hx)
        have hres4 : Hid (offsL a0 b0 c0 l = Res.pushAll (out ++ [(lit, len, toldO a b c lit v)]) (offsL (toldO a b c lit v) (updB a b (toldK lit v)) (updC b c (toldK lit v)) (l.drop (k + 1)))) := by
          show _ = _
          rw [hres.out, HD.out, ← Res.pushAll_push]; simp [offsL, hF]
        have hright4 : Hid (rightB (toldO a b c lit v) (updB a b (toldK lit v)) (updC b c (toldK lit v)) = true) := upd_right hright.out hin
        generalize toldO a b c lit v = O at *
        generalize updB a b (toldK lit v) = B' at *
        generalize updC b c (toldK lit v) = C' at *
        have hsz := k4.size
        clear e0 e1 e2 hF hin s1 hown hres hright kk
        go_wp2_with (first | (at_builtin; refine (wpList_append_own _ rfl (.tmp 16) (.tmp 22) 38 rfl w.heap.size 34 i0 (.agg #[.int .i64 0, .int .i64 0, .int .i64 0]) 3 24 Try.underlying38 hi hz0 hz1 hz2 rfl (by decide) u4 k (cellsL out) rfl (hown4.alloc _) ⟨w4.heap.size, 0, none⟩ 1 1 [.int .i64 lit, .int .i64 len, .int .i64 O] rfl rfl (three_new _ _ _ _ _) (by simp [Value.oneCell']) (by unfold maxLen; omega) (by omega) (by simp; omega) ?_); intro v5 w5 hown5 hg5 _))
        have s5 : Blk w5 s #[.int .i64 O, .int .i64 B', .int .i64 C'] 62 := (hg5.block s (by have := s4.lt; simp; omega) (fun he => by have := (hown4.lt s he.symm).1; have := HS.out; omega)).trans (s4.alloc _)
        have k5 : Keeps w w5 [s] := Keeps.trans (k4.alloc (.cells #[.int .i64 lit, .int .i64 len, .int .i64 O] 34)) (Keeps.of_grown (S := u4.ownBlock.toList) hg5 (fun x hx => by simp [hx])) (fun x hx hlt => by
          exfalso
          have hx' : u4.ownBlock = some x := by simpa using hx
          have := (hown4.lt x hx').1
          omega)
        refine ⟨⟨k + 1, out ++ [(lit, len, O)], O, B', C', _, _, by omega, by rw [show n - (k + 1) = n - k - 1 by omega], ?_, by simp [HO.out], hres4, hright4, s5, by rw [cellsL_snoc]; exact hown5, k5⟩, by simp [slLen]; omega⟩
        intro hk1
        refine ⟨by omega, b', o, rfl, ?_⟩
        rw [if_neg (by omega)]
        simp [show o + 3 * k + 3 = o + 3 * (k + 1) by omega]
    · have : k = n := by omega
      subst this
      simp only [Nat.sub_self]
      go_wp2
      go_ret
      have hd : l.drop k = [] := by have := HN.out; exact List.drop_eq_nil_of_le (by omega)
      have hq := hres.out
      rw [hd] at hq
      rw [hq]
      simp only [offsL, Res.pushAll, List.append_nil]
      exact ⟨_, rfl, by rw [hout]; exact hown, s1, k1⟩

end Go.Proofs.Ytldbiohahkcpnaa
