/-
  Offsets inverts Values with the same final repeat offsets: for every input the law returns true and each argument reads as it read before.
-/
import Derived.Test.YtldbiohahkcpnaaR4
import Derived.Test.YtldbiohahkcpnaaLB
namespace Go.Proofs.Ytldbiohahkcpnaa
set_option linter.unusedVariables false
set_option linter.unusedSimpArgs false
open Go.ChangeShapes Go.WideShapes Go.ChangeAt Go.RowKit Go.Joins

theorem vals_offs : ∀ (l : List I3) (a b c : Int), rightB a b c = true → ∀ {out : List I3} {x y z : Int}, valsL a b c l = .fine out x y z →
    offsL a b c out = .fine l x y z ∧ (∀ u ∈ out, u.2.2 ≤ 9223372036854775807)
  | [], a, b, c, _, out, x, y, z, h => by simp only [valsL] at h; cases h; exact ⟨rfl, by simp⟩
  | u :: l, a, b, c, hr, out, x, y, z, h => by
    simp only [valsL] at h
    split at h
    · rename_i hf
      simp only [vfFine, Bool.and_eq_true, decide_eq_true_eq] at hf
      obtain ⟨-, hl, ho⟩ := hf
      obtain ⟨ho1, ho2⟩ := inW_bd ho
      have ht := valV_told a b c u.1 u.2.2 ho1
      have hp := valV_pos a b c u.1 u.2.2 ho1
      have hr' : rightB u.2.2 (updB a b (toldK u.1 (valV a b c u.1 u.2.2))) (updC b c (toldK u.1 (valV a b c u.1 u.2.2))) = true := upd_right hr ho
      cases hq : valsL u.2.2 (updB a b (toldK u.1 (valV a b c u.1 u.2.2))) (updC b c (toldK u.1 (valV a b c u.1 u.2.2))) l with
      | bad n => rw [hq] at h; cases h
      | fine o p q r =>
        rw [hq] at h
        cases h
        obtain ⟨i1, i2⟩ := vals_offs l _ _ _ hr' hq
        refine ⟨?_, ?_⟩
        · have hf2 : ofFine a b c u.1 (valV a b c u.1 u.2.2) = true := by simp [ofFine, hr, hl, hp.1, ht, ho]
          simp only [offsL, hf2, if_true, ht, i1, Res.push]
        · intro t htm
          simp at htm
          rcases htm with rfl | htm
          · show valV a b c u.1 u.2.2 ≤ _
            omega
          · exact i2 t htm
    · cases h
theorem valsAll_offs {l : List I3} {a b c : Int} {out : List I3} {x y z : Int} (h : valsAll a b c l = .fine out x y z) : offsAll a b c out = .fine l x y z ∧ (∀ u ∈ out, u.2.2 ≤ 9223372036854775807) := by
  simp only [valsAll] at h
  split at h
  · rename_i hr
    have := vals_offs l a b c hr h
    exact ⟨by simp [offsAll, hr, this.1], this.2⟩
  · cases h
theorem valsAll_bad {l : List I3} {a b c : Int} {m : Int} (h : valsAll a b c l = .bad m) : m = 2 := by
  have gen : ∀ (l : List I3) (a b c : Int), valsL a b c l = .bad m → m = 2 := by
    intro l
    induction l with
    | nil => intro a b c h; simp [valsL] at h
    | cons u l ih =>
      intro a b c h
      simp only [valsL] at h
      split at h
      · cases hq : valsL u.2.2 (updB a b (toldK u.1 (valV a b c u.1 u.2.2))) (updC b c (toldK u.1 (valV a b c u.1 u.2.2))) l with
        | bad n => rw [hq] at h; cases h; exact ih _ _ _ hq
        | fine o p q r => rw [hq] at h; cases h
      · cases h; rfl
  simp only [valsAll] at h
  split at h
  · exact gen _ _ _ _ h
  · cases h; rfl

set_option maxHeartbeats 2000000 in
theorem law_holds (a b c : Int) (l : List I3) (v : Value) (w : World) (hv : Reads3 w v l) :
    Calls Try.prog 10 #[.agg #[.int .i64 a, .int .i64 b, .int .i64 c], v] w (LawEnd w) := by
  obtain ⟨A0, n, cp0, rfl, hnl, -⟩ := hv.form
  by_cases h100 : 100 < n
  · clear hv hnl
    have h1 : (100 : Int) < (n : Int) := by omega
    go_enter Try.func10, Try.ntmps10
    go_wp2_with (go_at_call 15; refine (works_true _).mono ?_; rintro e w5 ⟨rfl, kk⟩)
    go_ret
    exact ⟨rfl, (((Keeps.refl w []).alloc _).then kk).below⟩
  · have hl : l.length ≤ 1000000 := by omega
    have hd : decide ((100 : Int) < (n : Int)) = false := by simp; omega
    have G1 : ∀ w', Keeps w w' [] → Calls Try.prog 22 #[.agg #[.int .i64 a, .int .i64 b, .int .i64 c], .slice A0 n cp0] w' (OffsEnd w' 24 (valsAll a b c l)) := fun w' k => values_any a b c l _ w' (hv.keeps k) hl
    replace G1 := Lib.hid G1
    have HV := Lib.hid hv
    clear hv
    have hle : (n : Int) ≤ 100 := by omega
    have hln : l.length ≤ 100 := by omega
    have HN := Lib.hid hnl
    clear hnl
    have hbl := Blk.new w #[.int .i64 a, .int .i64 b, .int .i64 c] 22
    have k0 := (Keeps.refl w []).alloc (.cells #[.int .i64 a, .int .i64 b, .int .i64 c] 22)
    cases hres : valsAll a b c l with
    | bad m =>
      have hm := valsAll_bad hres
      rw [hres, hm] at G1
      clear hres hm
      go_enter Try.func10, Try.ntmps10
      go_wp2_with fail
      refine (G1.out _ k0).mono ?_
      rintro e w1 ⟨rfl, kk⟩
      have k1 := k0.then kk
      clear hbl k0 kk
      go_wp2_with (first | (go_at_call 14; go_in) | (go_at_call 15; refine (works_true _).mono ?_; rintro e w5 ⟨rfl, kk⟩))
      go_ret
      exact ⟨rfl, ((k1.alloc _).then kk).below⟩
    | fine out ra rb rc =>
      obtain ⟨hof, hbo⟩ := valsAll_offs hres
      have hol : out.length ≤ 1000000 := by rw [valsAll_len hres]; exact hl
      have G2 : ∀ (w' : World) (v' : Value), Reads3 w' v' out → Calls Try.prog 18 #[.agg #[.int .i64 a, .int .i64 b, .int .i64 c], v'] w' (OffsEnd w' 34 (.fine l ra rb rc)) := fun w' v' hr' => by
        rw [← hof]; exact offsets_any a b c out v' w' hr' hol hbo
      replace G2 := Lib.hid G2
      rw [hres] at G1
      clear hres hof hbo
      go_enter Try.func10, Try.ntmps10
      go_wp2_with fail
      refine (G1.out _ k0).mono ?_
      rintro e w1 ⟨v1, rfl, own1, kk⟩
      have b1 := hbl.keeps kk (by simp)
      have k1 := k0.then kk
      clear hbl k0 kk
      obtain ⟨ad1, cp1, rfl⟩ := owns_form own1
      obtain ⟨c0, c1, c2, -⟩ := b1.three
      have hlt1 := b1.lt
      go_wp2_with (go_at_call 14; go_in)
      refine (G2.out _ _ ((owns_reads own1).keeps ((Keeps.refl w1 []).alloc _))).mono ?_
      rintro e w2 ⟨v2, rfl, own2, kk⟩
      have t2 := (Blk.new w1 #[.int .i64 ra, .int .i64 rb, .int .i64 rc] 22).keeps kk (by simp)
      have k2 := (k1.alloc (.cells #[.int .i64 ra, .int .i64 rb, .int .i64 rc] 22)).then kk
      obtain ⟨ad2, cp2, rfl⟩ := owns_form own2
      have rd2 := owns_reads own2
      clear b1 k1 kk c0 c1 c2 hlt1 own1 own2
      obtain ⟨c0, c1, c2, -⟩ := t2.three
      have hlt2 := t2.lt
      have hnn := HN.out
      subst hnn
      go_wp2_with (go_at_call 14; go_in)
      obtain ⟨wq, hwq⟩ : ∃ wq, wq = w2.alloc (.cells #[.int .i64 ra, .int .i64 rb, .int .i64 rc] 22) := ⟨_, rfl⟩
      have rd2q := rd2.keeps ((Keeps.refl w2 []).alloc (.cells #[.int .i64 ra, .int .i64 rb, .int .i64 rc] 22))
      have kq := k2.alloc (.cells #[.int .i64 ra, .int .i64 rb, .int .i64 rc] 22)
      rw [← hwq] at rd2q kq ⊢
      have rd1q := HV.out.keeps kq
      clear hwq rd2 t2 k2 c0 c1 c2 hlt2
      go_loopw [11] (fun i wr => ∃ (k : Nat) (nd : Nat), k ≤ l.length ∧ i = .int .i64 k ∧ wr = wq.drewN nd) (fun i _ => l.length - (intOf i).toNat)
      case atStart => exact ⟨0, 0, by omega, rfl, rfl⟩
      case round =>
        obtain ⟨k, nd, hk, rfl, rfl⟩ := hrel
        by_cases hlt : k < l.length
        · obtain ⟨x, hx⟩ : ∃ x, l[k]? = some x := ⟨_, List.getElem?_eq_getElem hlt⟩
          obtain ⟨p1, o1, rfl, hp1, e1, e2, e3⟩ := rd1q.at hx
          obtain ⟨p2, o2, rfl, hp2, g1, g2, g3⟩ := rd2q.at hx
          obtain ⟨x1, x2, x3⟩ := x
          have hk0 : (0 : Int) ≤ (k : Int) := Int.natCast_nonneg _
          have hk1 : (k : Int) < (l.length : Int) := by omega
          clear hx rd1q rd2q
          go_wp2_with fail
          go_quiet (fail)
          go_wp2_with fail
          go_roundw
          case rel =>
            (repeat apply Exists.intro)
            exact ⟨⟨k + 1, nd + nq, by omega, by go_num, rfl⟩, rfl⟩
          case measure => simp [intOf]; omega
        · have : k = l.length := by omega
          subst this
          go_wp2_with (go_at_call 15; refine (works_true _).mono ?_; rintro e w5 ⟨rfl, kk⟩)
          go_ret
          exact ⟨rfl, ((kq.drewN _).then kk).below⟩

set_option maxRecDepth 100000 in
theorem repeatHolds_lifted (os : Os) (started : os.Started) (H : Type) (enc : TypeId × Value → H) :
    ReturnsInHanded {} Try.checked os 10 .any (Rows.repeatHoldsSpec.pre6 enc Try.prog Try.f10 Rows.repeatHoldsRow.domain false) (Rows.repeatHoldsSpec.post enc Try.prog Try.f10 false true false false) :=
  returnsInHanded_of_change (C := Try.checked) Try.own started (by kernel_rfl) Try.func10
    (ChangeSpec.witness6 (enc := enc) (C := Try.checked) false ⟨#[], #[.agg #[.int .i64 0, .int .i64 0, .int .i64 0], .slice none 0 0], []⟩ 8 (by kernel_rfl) (by kernel_rfl) (by kernel_rfl) (by kernel_rfl))
    (law_contract (C := Try.checked) Try.laidOut rfl
      (fun ds hd => by
        match ds, hd with
        | [d1, d2], _ => rfl)
      (fun t ht => by
        have : t = 22 ∨ t = 38 := by simpa [Try.params10] using ht
        rcases this with rfl | rfl <;> exact ⟨by kernel_rfl, of_decide_eq_true (by kernel_rfl)⟩)
      (tb := 4) rfl Try.underlying4
      (fun W base args ds ps hval0 hA0 hlt hnf => by
        have hval : ∀ (j : Nat) t v, Try.f10.params[j]? = some t → args[j]? = some v → Value.okWide Try.prog W .any base t v := hval0
        have hA : DataW.TrodAll enc Try.prog W 0 (fun _ => true) true Try.f10.params.toList args.toList ds ps := hA0
        rw [Try.params10] at hA hval
        obtain ⟨v0, v1, d0, d1, p0, p1, rfl, rfl, rfl, h0, h1⟩ := trodAll_two hA
        obtain ⟨a, b, c, rfl, -⟩ := open_arr3 Try.underlying22 Try.underlying3 (by kernel_rfl) (by kernel_rfl) (hval 0 22 v0 rfl rfl) h0
        obtain ⟨l, hrd, -⟩ := open_list3 Try.underlying38 Try.underlying34 Try.underlying3 (by kernel_rfl) (by kernel_rfl) rfl rfl rfl rfl rfl rfl (slice_cells Try.underlying38 (hval 1 38 v1 rfl rfl)) h1
        exact law_holds a b c l v1 W hrd))

theorem repeatHolds_holds : Rows.RepeatHoldsSaid :=
  OpenClaim.holds_of_wide 10 Try.f10 rfl rfl rfl rfl rfl rfl rfl ⟨rfl, rfl, rfl, rfl, rfl⟩ rfl rfl rfl rfl rfl (by kernel_rfl) Try.func10 (by kernel_rfl)
    (of_decide_eq_true (by kernel_rfl)) (by unfold Func.isWrapper; first | (rw [if_pos (by decide +kernel)]; kernel_rfl) | (rw [if_neg (by decide +kernel)]; exact ⟨rfl, rfl⟩))
    (fun os started H enc _ => repeatHolds_lifted os started H enc)

#print axioms repeatHolds_holds

end Go.Proofs.Ytldbiohahkcpnaa
