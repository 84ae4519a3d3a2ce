/-
  Offsets equals the reference's: for every input the law returns true and each argument reads as it read before.
-/
import Derived.Test.YtldbiohahkcpnaaR4
import Derived.Test.YtldbiohahkcpnaaR5
import Derived.Test.YtldbiohahkcpnaaLB
namespace Go.Proofs.Ytldbiohahkcpnaa
set_option linter.unusedVariables false
set_option linter.unusedSimpArgs false
open Go.ChangeShapes Go.WideShapes Go.ChangeAt Go.RowKit Go.Joins

set_option maxHeartbeats 2000000 in
theorem law_offsets (a b c : Int) (l : List I3) (v : Value) (w : World) (hv : Reads3 w v l) (hb : ∀ x ∈ l, x.2.2 ≤ 9223372036854775807) :
    Calls Try.prog 5 #[.agg #[.int .i64 a, .int .i64 b, .int .i64 c], v] w (LawEnd w) := by
  obtain ⟨A0, n, cp0, rfl, hnl, -⟩ := hv.form
  by_cases h100 : 100 < n
  · clear hv hb hnl
    have h1 : (100 : Int) < (n : Int) := by omega
    go_enter Try.func5, Try.ntmps5
    go_wp2_with (go_at_call 15; refine (works_true _).mono ?_; rintro e w5 ⟨rfl, kk⟩)
    go_ret
    exact ⟨rfl, (((Keeps.refl w []).alloc _).then kk).below⟩
  · have hl : l.length ≤ 1000000 := by omega
    have hd : decide ((100 : Int) < (n : Int)) = false := by simp; omega
    have G1 : ∀ w', Keeps w w' [] → Calls Try.prog 18 #[.agg #[.int .i64 a, .int .i64 b, .int .i64 c], .slice A0 n cp0] w' (OffsEnd w' 34 (offsAll a b c l)) := fun w' k => offsets_any a b c l _ w' (hv.keeps k) hl hb
    have G2 : ∀ w', Keeps w w' [] → Calls Try.prog 19 #[.agg #[.int .i64 a, .int .i64 b, .int .i64 c], .slice A0 n cp0] w' (OffsEnd w' 34 (offsAll a b c l)) := fun w' k => r_offsets_any a b c l _ w' (hv.keeps k) hl hb
    replace G1 := Lib.hid G1
    replace G2 := Lib.hid G2
    clear hv hb
    have hle : (n : Int) ≤ 100 := by omega
    have hbl := Blk.new w #[.int .i64 a, .int .i64 b, .int .i64 c] 22
    have k0 := (Keeps.refl w []).alloc (.cells #[.int .i64 a, .int .i64 b, .int .i64 c] 22)
    have hln : l.length ≤ 100 := by omega
    clear hnl
    cases hres : offsAll a b c l with
    | bad m =>
      rw [hres] at G1 G2
      clear hres
      go_enter Try.func5, Try.ntmps5
      go_wp2_with fail
      refine (G1.out _ k0).mono ?_
      rintro e w1 ⟨rfl, kk⟩
      have b1 := hbl.keeps kk (by simp)
      have k1 := k0.then kk
      clear hbl k0 kk
      obtain ⟨c0, c1, c2, -⟩ := b1.three
      have hlt1 := b1.lt
      go_wp2_with fail
      refine (G2.out _ (k1.alloc _)).mono ?_
      rintro e w2 ⟨rfl, kk⟩
      have t2 := (Blk.new w1 #[.int .i64 0, .int .i64 0, .int .i64 0] 22).keeps kk (by simp)
      have k2 := (k1.alloc (.cells #[.int .i64 0, .int .i64 0, .int .i64 0] 22)).then kk
      clear b1 k1 kk c0 c1 c2 hlt1
      obtain ⟨c0, c1, c2, -⟩ := t2.three
      have hlt2 := t2.lt
      go_wp2_with (go_at_call 14; go_in)
      refine wp_loop_rounds 1 ?_
      rw [rounds_succ]
      go_wp2_with (go_at_call 15; refine (works_true _).mono ?_; rintro e w5 ⟨rfl, kk⟩)
      go_ret
      exact ⟨rfl, ((k2.alloc _).then kk).below⟩
    | fine out ra rb rc =>
      have hob : out.length ≤ 100 := by rw [offsAll_len hres]; exact hln
      rw [hres] at G1 G2
      clear hres
      go_enter Try.func5, Try.ntmps5
      go_wp2_with fail
      refine (G1.out _ k0).mono ?_
      rintro e w1 ⟨v1, rfl, own1, kk⟩
      have b1 := hbl.keeps kk (by simp)
      have k1 := k0.then kk
      clear hbl k0 kk
      obtain ⟨ad1, cp1, rfl⟩ := owns_form own1
      obtain ⟨c0, c1, c2, -⟩ := b1.three
      have hlt1 := b1.lt
      go_wp2_with fail
      refine (G2.out _ (k1.alloc _)).mono ?_
      rintro e w2 ⟨v2, rfl, own2, kk⟩
      have t2 := (Blk.new w1 #[.int .i64 ra, .int .i64 rb, .int .i64 rc] 22).keeps kk (by simp)
      have k2 := (k1.alloc (.cells #[.int .i64 ra, .int .i64 rb, .int .i64 rc] 22)).then kk
      obtain ⟨ad2, cp2, rfl⟩ := owns_form own2
      have rd1 := (owns_reads own1).keeps (((Keeps.refl w1 []).alloc (.cells #[.int .i64 ra, .int .i64 rb, .int .i64 rc] 22)).then kk)
      have rd2 := owns_reads own2
      clear b1 k1 kk c0 c1 c2 hlt1 own1 own2
      obtain ⟨c0, c1, c2, -⟩ := t2.three
      have hlt2 := t2.lt
      go_wp2_with (go_at_call 14; go_in)
      obtain ⟨wq, hwq⟩ : ∃ wq, wq = w2.alloc (.cells #[.int .i64 ra, .int .i64 rb, .int .i64 rc] 22) := ⟨_, rfl⟩
      have rd1q := rd1.keeps ((Keeps.refl w2 []).alloc (.cells #[.int .i64 ra, .int .i64 rb, .int .i64 rc] 22))
      have rd2q := rd2.keeps ((Keeps.refl w2 []).alloc (.cells #[.int .i64 ra, .int .i64 rb, .int .i64 rc] 22))
      have kq := k2.alloc (.cells #[.int .i64 ra, .int .i64 rb, .int .i64 rc] 22)
      rw [← hwq] at rd1q rd2q kq ⊢
      clear hwq rd1 rd2 t2 k2 c0 c1 c2 hlt2
      go_loopw [11] (fun i wr => ∃ (k : Nat) (nd : Nat), k ≤ out.length ∧ i = .int .i64 k ∧ wr = wq.drewN nd) (fun i _ => out.length - (intOf i).toNat)
      case atStart => exact ⟨0, 0, by omega, rfl, rfl⟩
      case round =>
        obtain ⟨k, nd, hk, rfl, rfl⟩ := hrel
        by_cases hlt : k < out.length
        · obtain ⟨x, hx⟩ : ∃ x, out[k]? = some x := ⟨_, List.getElem?_eq_getElem hlt⟩
          obtain ⟨p1, o1, rfl, hp1, e1, e2, e3⟩ := rd1q.at hx
          obtain ⟨p2, o2, rfl, hp2, g1, g2, g3⟩ := rd2q.at hx
          obtain ⟨x1, x2, x3⟩ := x
          have hk0 : (0 : Int) ≤ (k : Int) := Int.natCast_nonneg _
          have hk1 : (k : Int) < (out.length : Int) := by omega
          clear hx rd1q rd2q
          go_wp2_with fail
          go_quiet (fail)
          go_wp2_with fail
          go_roundw
          case rel =>
            (repeat apply Exists.intro)
            exact ⟨⟨k + 1, nd + nq, by omega, by go_num, rfl⟩, rfl⟩
          case measure => simp [intOf]; omega
        · have : k = out.length := by omega
          subst this
          go_wp2_with (go_at_call 15; refine (works_true _).mono ?_; rintro e w5 ⟨rfl, kk⟩)
          go_ret
          exact ⟨rfl, ((kq.drewN _).then kk).below⟩

set_option maxRecDepth 100000 in
theorem repeatOffsets_lifted (os : Os) (started : os.Started) (H : Type) (enc : TypeId × Value → H) :
    ReturnsInHanded {} Try.checked os 5 .any (Rows.repeatOffsetsSpec.pre6 enc Try.prog Try.f5 Rows.repeatOffsetsRow.domain false) (Rows.repeatOffsetsSpec.post enc Try.prog Try.f5 false true false false) :=
  returnsInHanded_of_change (C := Try.checked) Try.own started (by kernel_rfl) Try.func5
    (ChangeSpec.witness6 (enc := enc) (C := Try.checked) false ⟨#[], #[.agg #[.int .i64 0, .int .i64 0, .int .i64 0], .slice none 0 0], []⟩ 8 (by kernel_rfl) (by kernel_rfl) (by kernel_rfl) (by kernel_rfl))
    (law_contract (C := Try.checked) Try.laidOut rfl
      (fun ds hd => by
        match ds, hd with
        | [d1, d2], _ => rfl)
      (fun t ht => by
        have : t = 22 ∨ t = 37 := by simpa [Try.params5] using ht
        rcases this with rfl | rfl <;> exact ⟨by kernel_rfl, of_decide_eq_true (by kernel_rfl)⟩)
      (tb := 4) rfl Try.underlying4
      (fun W base args ds ps hval0 hA0 hlt hnf => by
        have hval : ∀ (j : Nat) t v, Try.f5.params[j]? = some t → args[j]? = some v → Value.okWide Try.prog W .any base t v := hval0
        have hA : DataW.TrodAll enc Try.prog W 0 (fun _ => true) true Try.f5.params.toList args.toList ds ps := hA0
        rw [Try.params5] at hA hval
        obtain ⟨v0, v1, d0, d1, p0, p1, rfl, rfl, rfl, h0, h1⟩ := trodAll_two hA
        obtain ⟨a, b, c, rfl, -⟩ := open_arr3 Try.underlying22 Try.underlying3 (by kernel_rfl) (by kernel_rfl) (hval 0 22 v0 rfl rfl) h0
        obtain ⟨l, hrd, hb⟩ := open_list3 Try.underlying37 Try.underlying24 Try.underlying3 (by kernel_rfl) (by kernel_rfl) rfl rfl rfl rfl rfl rfl (slice_cells Try.underlying37 (hval 1 37 v1 rfl rfl)) h1
        exact law_offsets a b c l v1 W hrd hb))

theorem repeatOffsets_holds : Rows.RepeatOffsetsSaid :=
  OpenClaim.holds_of_wide 5 Try.f5 rfl rfl rfl rfl rfl rfl rfl ⟨rfl, rfl, rfl, rfl, rfl⟩ rfl rfl rfl rfl rfl (by kernel_rfl) Try.func5 (by kernel_rfl)
    (of_decide_eq_true (by kernel_rfl)) (by unfold Func.isWrapper; first | (rw [if_pos (by decide +kernel)]; kernel_rfl) | (rw [if_neg (by decide +kernel)]; exact ⟨rfl, rfl⟩))
    (fun os started H enc _ => repeatOffsets_lifted os started H enc)

#print axioms repeatOffsets_holds

end Go.Proofs.Ytldbiohahkcpnaa
