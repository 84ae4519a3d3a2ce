/-
  Walks over package limit: the used symbols as packages, sorted.
-/
import Derived.Test.YthjbngnihcmedaaJA
import Derived.Test.YthjbngnihcmedaaJB
import Derived.Test.YthjbngnihcmedaaJK
import Derived.Shelf.Abstract
namespace Go.Proofs.Ythjbngnihcmedaa
set_option linter.unusedVariables false
set_option linter.unusedSimpArgs false
set_option linter.unusedSectionVars false
open Go.RowKit

theorem Try.infoPack : (Try.prog.info? 68).map (fun i => (i.zero, i.size, i.bytes)) = some (some (.agg #[.int .i64 0, .slice none 0 0]), 2, 32) := by kernel_rfl

set_option maxHeartbeats 1000000 in
/-- The comparison of two symbols' counts. -/
theorem first1_any (pb a b : Nat) (x y : Int) (v : Value) (l : List Int) (w : World) (hp : Blk w pb #[v] 59) (hv : RdI .i64 w v l) (hx : l[a]? = some x) (hy : l[b]? = some y) (hx0 : 0 ≤ x) (hx1 : x ≤ 2147483648) (hy0 : 0 ≤ y) (hy1 : y ≤ 2147483648) (hn : l.length ≤ 1000000) :
    Calls Try.prog 58 #[.int .i64 a, .int .i64 b, .pointer (some ⟨pb, 0, none⟩)] w fun e w' => e = .returned (.int .i64 (x - y)) ∧ ∃ m, w' = w.drewN m := by
  obtain ⟨A0, n, cp0, rfl, hnl, -⟩ := hv.form
  have hla := (List.getElem?_eq_some_iff.1 hx).1
  have hlb := (List.getElem?_eq_some_iff.1 hy).1
  obtain ⟨c0, -⟩ := hp.one
  obtain ⟨b1, o1, rfl, hb1, hc1⟩ := hv.at hx
  obtain ⟨b2, o2, he, hb2, hc2⟩ := hv.at hy
  cases he
  have hcap := hv.cap
  have ha1 : (a : Int) < (n : Int) := by omega
  have hb1' : (b : Int) < (n : Int) := by omega
  have ha0 : (0 : Int) ≤ (a : Int) := Int.natCast_nonneg _
  have hb0 : (0 : Int) ≤ (b : Int) := Int.natCast_nonneg _
  clear hp hv hx hy hla hlb hnl
  have hw : IntKind.i64.wrap (x - y) = x - y := IntWalk.i64_in _ (by omega)
  go_enter Try.func58, Try.ntmps58
  go_wp2_with fail
  go_quiet (fail)
  go_wp2_with fail
  go_ret
  exact ⟨by first | rfl | trivial, nq, by first | rfl | trivial⟩

theorem first1_ok (pb g : Nat) (v : Value) (l : List Int) (w : World) (hp : Blk w pb #[v] 59) (hv : RdI .i64 w v l) (hr : ∀ x ∈ l, 0 ≤ x ∧ x ≤ 2147483648) (hn : l.length ≤ 1000000) (hg : pb ≠ g) (hvg : ∀ ad n cp, v = .slice (some ad) n cp → 0 < n → ad.block ≠ g) :
    CmpOk Try.prog 58 #[.pointer (some ⟨pb, 0, none⟩)] (keyC l) g (fun s => ∃ j : Nat, s = (j : Int) ∧ j < l.length) w := by
  rintro w' k _ _ ⟨a, rfl, ha⟩ ⟨b, rfl, hb⟩
  obtain ⟨x, hx⟩ : ∃ x, l[a]? = some x := ⟨_, List.getElem?_eq_getElem ha⟩
  obtain ⟨y, hy⟩ : ∃ y, l[b]? = some y := ⟨_, List.getElem?_eq_getElem hb⟩
  have h1 := hr x (List.mem_of_getElem? hx)
  have h2 := hr y (List.mem_of_getElem? hy)
  have G := first1_any pb a b x y v l w' (hp.keeps k (by simpa using hg)) (hv.keepsS k (fun ad n cp he h0 hm => hvg ad n cp he h0 (List.mem_singleton.1 hm))) hx hy h1.1 h1.2 h2.1 h2.2 hn
  have e : cmpR (keyC l) (a : Int) (b : Int) = x - y := by unfold cmpR; rw [keyC_at hx, keyC_at hy]
  rw [e]
  exact G

variable [SH : Shun]
/-- A slice of packages of the call's own is handed back. -/
def PackEnd (w : World) (l : List Pack) (e : Ending) (w' : World) : Prop := ∃ v, e = .returned v ∧ OwnK w' w.heap.size 68 v l ∧ Keeps w w' []

theorem firstP_take {l : List Int} {k : Nat} {s : Int} (h : (sortU l)[k]? = some s) : (firstP l).take (k + 1) = (firstP l).take k ++ [(keyC l s, [s])] := by
  unfold firstP
  rw [← List.map_take, ← List.map_take, List.take_add_one, h, List.map_append]
  rfl

set_option maxHeartbeats 4000000 in
theorem first_any (v : Value) (l : List Int) (w : World) (hv : RdI .i64 w v l) (hr : rightL l = true) (hsh : SH.g < w.heap.size) :
    Calls Try.prog 36 #[.agg #[v]] w (PackEnd w (firstP l)) := by
  have hmf : ∀ (fn : Fn) (first cap : Array Value) (w : World), (Instr.makeFunc fn first cap).run Try.prog w = .ok (.func fn first cap) w := fun _ _ _ _ => rfl
  have hl256 := (rightL_iff.1 hr).1
  have HU := Lib.hid (fun w' (k : Keeps w w' []) => used_any v l w' (hv.keeps k) (by omega))
  have HV := Lib.hid hv
  have HB := Lib.hid (rightL_iff.1 hr).2
  obtain ⟨A0, n, cp0, rfl, hnl, -⟩ := hv.form
  obtain ⟨i0, hi, hz0, hz1, hz2⟩ := info_parts Try.infoPack
  have HN := Lib.hid hnl
  have hn2 : n ≤ 256 := by omega
  have hul : (usedL l).length ≤ 256 := by have := usedL_len l; omega
  have bl := Blk.new w #[.slice A0 n cp0] 59
  have k0 : Keeps w (w.alloc (.cells #[.slice A0 n cp0] 59)) [] := (Keeps.refl w []).alloc _
  obtain ⟨c0, -⟩ := bl.one
  clear hv hr hnl
  go_enter Try.func36, Try.ntmps36
  go_wp2_with fail
  refine (HU.out _ k0).mono ?_
  rintro e w1 ⟨vu, rfl, own1, k1⟩
  obtain ⟨ad1, cp1, rfl⟩ := own_form own1
  have O1 := Lib.hid own1
  have bl1 := bl.keeps k1 (by simp)
  have hs1 := k1.size
  rw [World.size_alloc] at hs1
  clear own1 c0 bl
  go_wp2_with fail
  have SORT : Hid (Calls Try.prog 57 #[.slice ad1 (usedL l).length cp1, .func (.func 58) #[] #[.pointer (some ⟨w.heap.size, 0, none⟩)]] w1 fun e w' => e = .returned (.tuple #[]) ∧ RdI .i64 w' (.slice ad1 (usedL l).length cp1) (sortU l) ∧ Keeps (w.alloc (.cells #[.slice A0 n cp0] 59)) w' []) := by
    show Calls _ _ _ _ _
    rcases O1.out.2 with ⟨e1, e2⟩ | ⟨g, cap, cur, e1, -⟩
    · injection e1 with q1 q2 q3
      have hU : usedL l = [] := by simpa using e2
      have hS : sortU l = [] := List.eq_nil_of_length_eq_zero (by rw [sortU_len, hU]; rfl)
      subst q1 q3
      rw [hU, hS]
      exact (sortStable_none _ w1).mono (by rintro e w' ⟨rfl, rfl⟩; exact ⟨rfl, RdI.nil, k1⟩)
    · injection e1 with q1 q2 q3
      subst q1 q3
      have hg := O1.out.lt g rfl
      rw [World.size_alloc] at hg
      have row : RowI w1 g (usedL l).length cp1 (usedL l) := ⟨rfl, own_base O1.out (Nat.zero_le _)⟩
      have rl1 := (HV.out.keeps k0).keeps k1
      have cok := first1_ok w.heap.size g _ l _ bl1 rl1 HB.out (by omega) (by omega) (fun ad n cp h h0 hb => by
        cases h
        obtain ⟨b, o, e, hb', -⟩ := HV.out.addr h0
        cases e
        have hb2 : b = g := hb
        omega)
      refine (sortStable_any g (usedL l).length cp1 (usedL l) 58 _ (keyC l) _ _ (enters_of Try.func58 (by kernel_rfl) rfl) row cok (fun s hs => ?_) (by omega)).mono ?_
      · obtain ⟨j, h1, x, h2, -⟩ := usedL_mem hs
        exact ⟨j, h1, (List.getElem?_eq_some_iff.1 h2).1⟩
      · rintro e w' ⟨rfl, ⟨Z, r5, e5, s5⟩, k5⟩
        have := sortU_uniq e5 s5
        subst this
        exact ⟨rfl, r5.reads, k1.trans k5 (fun x hx hlt => by have := List.mem_singleton.1 hx; simp at hlt; omega)⟩
  refine SORT.out.mono ?_
  rintro e w2 ⟨rfl, r2, k2⟩
  have R2 := Lib.hid r2
  have bl2 := (Blk.new w #[.slice A0 n cp0] 59).keeps k2 (by simp)
  have KW := k0.then k2
  have hs2 := k2.size
  rw [World.size_alloc] at hs2
  have hSL : Hid ((sortU l).length = (usedL l).length) := sortU_len l
  generalize (usedL l).length = N at *
  clear r2 k1 k2 bl1 SORT O1 HU hs1
  go_wp2_with fail
  go_loopw [2, 14] (fun s2 s14 wr => ∃ (k : Nat) (c : Nat) (ad : Option Addr), k ≤ N ∧ s14 = .int .i64 k ∧ s2 = .slice ad k c ∧ Hid (OwnK wr w2.heap.size 68 (.slice ad k c) ((firstP l).take k)) ∧ Keeps w2 wr []) (fun _ s14 _ => N - (intOf s14).toNat)
  case atStart => exact ⟨0, 0, none, Nat.zero_le _, rfl, rfl, OwnK.nil, Keeps.refl _ _⟩
  case round =>
    obtain ⟨k, c, ad, hk, rfl, rfl, hO, kr⟩ := hrel
    by_cases hlt : k < N
    · obtain ⟨s, hs⟩ : ∃ s, (sortU l)[k]? = some s := ⟨_, List.getElem?_eq_getElem (by have := hSL.out; omega)⟩
      obtain ⟨j, rfl, x, hx, hx0⟩ := sortU_mem (List.mem_of_getElem? hs)
      have hjn := (List.getElem?_eq_some_iff.1 hx).1
      obtain ⟨b1, o1, rfl, hb1, e1⟩ := (R2.out.keeps kr).at hs
      obtain ⟨b2, o2, rfl, hb2, e2⟩ := ((HV.out.keeps KW).keeps kr).at hx
      obtain ⟨c0, -⟩ := (bl2.keeps kr (by simp)).one
      have hcap1 := R2.out.cap
      have hcap2 := HV.out.cap
      have hkN : (k : Int) < (N : Int) := by omega
      have hjI : (j : Int) < (n : Int) := by have := HN.out; omega
      have hj0 : (0 : Int) ≤ (j : Int) := Int.natCast_nonneg _
      have hjn2 : j < n := by have := HN.out; omega
      have HT : Hid ((firstP l).take (k + 1) = (firstP l).take k ++ [(x, [(j : Int)])]) := by show _ = _; rw [firstP_take hs, keyC_at hx]
      have hTl : Hid (((firstP l).take k).length = k) := by show _ = _; have := hSL.out; simp [firstP]; omega
      have hob := fun x (hx : Value.ownBlock (.slice ad k c) = some x) => (by obtain ⟨xs, ho, -⟩ := hO.out; exact (ho.lt x hx).2 : x < wr.heap.size)
      have HOB := Lib.hid hob
      have hkk := (Keeps.refl wr []).alloc (.cells #[.int .i64 (j : Int)] 3) |>.alloc (.cells #[.int .i64 x, .slice (some ⟨wr.heap.size, 0, none⟩) 1 1] 68)
      have bi := Lib.hid ((Blk.new wr #[.int .i64 (j : Int)] 3).alloc (.cells #[.int .i64 x, .slice (some ⟨wr.heap.size, 0, none⟩) 1 1] 68))
      have bp : Hid (Blk ((wr.alloc (.cells #[.int .i64 (j : Int)] 3)).alloc (.cells #[.int .i64 x, .slice (some ⟨wr.heap.size, 0, none⟩) 1 1] 68)) (wr.heap.size + 1) #[.int .i64 x, .slice (some ⟨wr.heap.size, 0, none⟩) 1 1] 68) := by
        have h := Blk.new (wr.alloc (.cells #[.int .i64 (j : Int)] 3)) #[.int .i64 x, .slice (some ⟨wr.heap.size, 0, none⟩) 1 1] 68
        rw [World.size_alloc] at h; exact h
      obtain ⟨xs, ho, hcl⟩ := hO.out.keep hkk
      rw [hTl.out] at ho
      have OW := Lib.hid ho
      have HCL := Lib.hid hcl
      have hwk := kr.size
      clear hs hx hjn ho hcl hob
      go_wp2_with (first | (at_builtin; refine wpList_append_own_at _ rfl (.tmp 18) (.tmp 27) 61 rfl w2.heap.size 68 i0 (.agg #[.int .i64 0, .slice none 0 0]) 2 32 Try.underlying61 hi hz0 hz1 hz2 rfl (by decide) (.slice ad k c) k xs rfl OW.out ⟨wr.heap.size + 1, 0, none⟩ 1 1 [.int .i64 x, .slice (some ⟨wr.heap.size, 0, none⟩) 1 1] rfl rfl (news_one bp.out) (by simp [Value.oneCell']) (by unfold maxLen; omega) (by omega) (by simp; omega) ?_; intro v3 w3 own3 hg3 hcap3 hat3; have OWN3 := Lib.hid own3; clear own3; have HG3 := Lib.hid hg3; clear hg3; have HAT3 := Lib.hid hat3; clear hat3 hcap3))
      obtain ⟨ad3, c3, rfl⟩ := own_form OWN3.out
      have SN : Hid (OwnK w3 w2.heap.size 68 (.slice ad3 (k + 1) c3) ((firstP l).take (k + 1))) := by
        show OwnK _ _ _ _ _
        rw [HT.out]
        exact OwnK.snoc (l := (firstP l).take k) HCL.out (by rw [hTl.out]; exact OWN3.out) HG3.out HAT3.out ⟨blk_one bi.out, fun ad' n' c' h h0 => by cases h; dsimp only; omega⟩ (fun ad' n' c' h h0 => by
          cases h
          exact ⟨by simp; omega, fun h => by have := HOB.out _ h; simp at this⟩)
      have K3 : Hid (Keeps w2 w3 []) := (kr.then hkk).trans (Keeps.of_grown (S := (Value.ownBlock (.slice ad k c)).toList) HG3.out (fun j hj => by simpa using hj)) (fun y hy hlt => by
        have h1 := (OW.out.lt y (by simpa using hy)).1
        omega)
      go_roundw
      case rel => exact ⟨k + 1, c3, ad3, by omega, by go_num, rfl, SN, K3.out⟩
      case measure => simp [intOf]; omega
    · have : k = N := by omega
      subst this
      go_wp2_with fail
      go_ret
      have h := hO.out
      rw [List.take_of_length_le (by have := hSL.out; simp [firstP]; omega)] at h
      exact ⟨_, rfl, by have h2 := h.lower (base' := w.heap.size) (by omega); exact h2, KW.then kr⟩

end Go.Proofs.Ythjbngnihcmedaa
