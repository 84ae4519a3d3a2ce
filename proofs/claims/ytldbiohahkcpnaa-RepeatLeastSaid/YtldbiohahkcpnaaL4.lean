/-
  Offset inverts Value, and no smaller code value gives the offset: for every input the law returns true and each argument reads as it read before.
-/
import Derived.Test.YtldbiohahkcpnaaR4
import Derived.Test.YtldbiohahkcpnaaOpen
namespace Go.Proofs.Ytldbiohahkcpnaa
set_option linter.unusedVariables false
set_option linter.unusedSimpArgs false
open Go.ChangeShapes Go.WideShapes Go.ChangeAt Go.RowKit Go.Joins

theorem least_miss {a b c lit off : Int} {k : Nat} (h1 : 1 ≤ off) (hk : ((k : Int) + 1) < valV a b c lit off) (hk4 : k < 3) : toldO a b c lit (k + 1) ≠ off := by
  intro h
  have : k = 0 ∨ k = 1 ∨ k = 2 := by omega
  rcases this with rfl | rfl | rfl
  · simp at h; simp [valV, valS, h] at hk
  · simp at h
    by_cases g1 : toldO a b c lit 1 = off <;> simp [valV, valS, h, g1] at hk
  · simp at h
    by_cases g1 : toldO a b c lit 1 = off <;> by_cases g2 : toldO a b c lit 2 = off <;> simp [valV, valS, h, g1, g2] at hk

set_option maxHeartbeats 2000000 in
theorem law_least (a b c lit len off : Int) (w : World) :
    Calls Try.prog 6 #[.agg #[.int .i64 a, .int .i64 b, .int .i64 c], .agg #[.int .i64 lit, .int .i64 len, .int .i64 off]] w (LawEnd w) := by
  cases hf : vfFine a b c lit off with
  | false =>
    have G1 := Lib.hid fun w => value_not a b c lit len off w hf
    clear hf
    go_enter Try.func6, Try.ntmps6
    go_wp2_with fail
    refine (G1.out _).mono ?_
    rintro e w1 ⟨rfl, kk⟩
    have k1 := (((Keeps.refl w []).alloc (.cells #[.int .i64 a, .int .i64 b, .int .i64 c] 22)).alloc (.cells #[.int .i64 lit, .int .i64 len, .int .i64 off] 34)).then kk
    clear kk
    go_wp2_with (first | (go_at_call 14; go_in) | (go_at_call 15; refine (works_true _).mono ?_; rintro e w3 ⟨rfl, kk⟩))
    go_ret
    exact ⟨rfl, ((k1.alloc _).then kk).below⟩
  | true =>
    have G1 := Lib.hid fun w => value_fine a b c lit len off w hf
    have hf' := hf
    simp only [vfFine, Bool.and_eq_true, decide_eq_true_eq] at hf'
    obtain ⟨hr, hl, ho⟩ := hf'
    obtain ⟨ho1, ho2⟩ := inW_bd ho
    have hp := valV_pos a b c lit off ho1
    have ht := valV_told a b c lit off ho1
    obtain ⟨g1, g2, g3, g4⟩ := of_hit hr hl hp.1 ho ht
    have G2 := fun w => offset_any a b c lit 0 (valV a b c lit off) w (by omega)
    rw [g1, g2, g3, g4] at G2
    have HM : Hid (∀ k : Nat, ((k : Int) + 1) < valV a b c lit off → k < 3 → toldO a b c lit (k + 1) ≠ off) := fun k h h3 => least_miss ho1 h h3
    have hpl := hp.1
    have hpu := hp.2
    clear hr ho hp ht g1 g2 g3 g4 hf
    generalize updB a b (toldK lit (valV a b c lit off)) = B' at *
    generalize updC b c (toldK lit (valV a b c lit off)) = C' at *
    generalize valV a b c lit off = V at *
    replace G2 := Lib.hid G2
    go_enter Try.func6, Try.ntmps6
    go_wp2_with fail
    refine (G1.out _).mono ?_
    rintro e w1 ⟨rfl, kk⟩
    have b1 := ((Blk.new w #[.int .i64 a, .int .i64 b, .int .i64 c] 22).alloc (.cells #[.int .i64 lit, .int .i64 len, .int .i64 off] 34)).keeps kk (by simp)
    have x1 := (Blk.new (w.alloc (.cells #[.int .i64 a, .int .i64 b, .int .i64 c] 22)) #[.int .i64 lit, .int .i64 len, .int .i64 off] 34).keeps kk (by simp)
    have k1 := (((Keeps.refl w []).alloc (.cells #[.int .i64 a, .int .i64 b, .int .i64 c] 22)).alloc (.cells #[.int .i64 lit, .int .i64 len, .int .i64 off] 34)).then kk
    simp only [World.size_alloc] at x1
    clear kk
    obtain ⟨c0, c1, c2, -⟩ := b1.three
    obtain ⟨d0, d1, d2, -⟩ := x1.three
    have hl0 := b1.lt
    have hl1 := x1.lt
    go_wp2_with (go_at_call 14; go_in)
    refine (G2.out _).mono ?_
    rintro e w2 ⟨rfl, kk⟩
    have b2 := (b1.alloc (.cells #[.int .i64 off, .int .i64 B', .int .i64 C'] 22)).keeps kk (by simp)
    have x2 := (x1.alloc (.cells #[.int .i64 off, .int .i64 B', .int .i64 C'] 22)).keeps kk (by simp)
    have t2 := (Blk.new w1 #[.int .i64 off, .int .i64 B', .int .i64 C'] 22).keeps kk (by simp)
    have k2 := (k1.alloc (.cells #[.int .i64 off, .int .i64 B', .int .i64 C'] 22)).then kk
    clear kk b1 x1 k1 c0 c1 c2 d0 d1 d2 hl0 hl1
    obtain ⟨c0, c1, c2, -⟩ := t2.three
    obtain ⟨d0, d1, d2, -⟩ := x2.three
    have hl0 := t2.lt
    have hl1 := x2.lt
    go_wp2_with (go_at_call 14; go_in)
    replace b2 := b2.alloc (.cells #[.int .i64 off, .int .i64 B', .int .i64 C'] 22)
    replace x2 := x2.alloc (.cells #[.int .i64 off, .int .i64 B', .int .i64 C'] 22)
    replace k2 := k2.alloc (.cells #[.int .i64 off, .int .i64 B', .int .i64 C'] 22)
    clear c0 c1 c2 d0 d1 d2 hl0 hl1 t2
    go_loopw [11] (fun x wr => ∃ k : Nat, k ≤ 3 ∧ x = .int .i64 (k + 1) ∧ Blk wr w.heap.size #[.int .i64 a, .int .i64 b, .int .i64 c] 22 ∧ Blk wr (w.heap.size + 1) #[.int .i64 lit, .int .i64 len, .int .i64 off] 34 ∧ Keeps w wr []) (fun x _ => (4 - intOf x).toNat)
    case atStart => exact ⟨0, by omega, rfl, b2, x2, k2⟩
    case round =>
      obtain ⟨k, hk, rfl, b3, x3, k3⟩ := hrel
      clear b2 x2 k2
      obtain ⟨c0, c1, c2, -⟩ := b3.three
      obtain ⟨d0, d1, d2, -⟩ := x3.three
      by_cases h4 : 4 < V
      · by_cases hlt : ((k : Int) + 1) < 4
        · have hV : ((k : Int) + 1) < V := by omega
          have h3 : k < 3 := by omega
          have hms := of_miss ho1 (HM.out k hV h3)
          have hd : (ofO a b c lit (k + 1) == off) = false := by simpa using hms
          clear hms
          have G3 := Lib.hid fun w => offset_any a b c lit 0 (k + 1) w (by omega)
          go_wp2_with fail
          refine (G3.out _).mono ?_
          rintro e w4 ⟨rfl, kk⟩
          have b4 := b3.keeps kk (by simp)
          have x4 := x3.keeps kk (by simp)
          have k4 := k3.then kk
          clear c0 c1 c2 d0 d1 d2 b3 x3 k3 kk
          obtain ⟨d0, d1, d2, -⟩ := x4.three
          have hl1 := x4.lt
          cases he : (ofErr a b c lit (k + 1) == 0)
          all_goals
            go_wp2_with (go_at_call 14; go_in)
            exact ⟨⟨k + 1, by omega, by go_num, b4.alloc _, x4.alloc _, k4.alloc _⟩, by simp [intOf]; omega⟩
        · have hd : decide (((k : Int) + 1) < 4) = false := by simpa using hlt
          have hge : 4 ≤ ((k : Int) + 1) := by omega
          clear hlt
          go_wp2_with (go_at_call 15; refine (works_true _).mono ?_; rintro e w5 ⟨rfl, kk⟩)
          go_ret
          exact ⟨rfl, (k3.then kk).below⟩

      · have h4' : V ≤ 4 := by omega
        by_cases hlt : ((k : Int) + 1) < V
        · have hV : ((k : Int) + 1) < V := by omega
          have h3 : k < 3 := by omega
          have hms := of_miss ho1 (HM.out k hV h3)
          have hd : (ofO a b c lit (k + 1) == off) = false := by simpa using hms
          clear hms
          have G3 := Lib.hid fun w => offset_any a b c lit 0 (k + 1) w (by omega)
          go_wp2_with fail
          refine (G3.out _).mono ?_
          rintro e w4 ⟨rfl, kk⟩
          have b4 := b3.keeps kk (by simp)
          have x4 := x3.keeps kk (by simp)
          have k4 := k3.then kk
          clear c0 c1 c2 d0 d1 d2 b3 x3 k3 kk
          obtain ⟨d0, d1, d2, -⟩ := x4.three
          have hl1 := x4.lt
          cases he : (ofErr a b c lit (k + 1) == 0)
          all_goals
            go_wp2_with (go_at_call 14; go_in)
            exact ⟨⟨k + 1, by omega, by go_num, b4.alloc _, x4.alloc _, k4.alloc _⟩, by simp [intOf]; omega⟩
        · have hd : decide (((k : Int) + 1) < V) = false := by simpa using hlt
          have hge : V ≤ ((k : Int) + 1) := by omega
          clear hlt
          go_wp2_with (go_at_call 15; refine (works_true _).mono ?_; rintro e w5 ⟨rfl, kk⟩)
          go_ret
          exact ⟨rfl, (k3.then kk).below⟩

set_option maxRecDepth 100000 in
theorem repeatLeast_lifted (os : Os) (started : os.Started) (H : Type) (enc : TypeId × Value → H) :
    ReturnsInHanded {} Try.checked os 6 .any (Rows.repeatLeastSpec.pre6 enc Try.prog Try.f6 Rows.repeatLeastRow.domain false) (Rows.repeatLeastSpec.post enc Try.prog Try.f6 false true false false) :=
  returnsInHanded_of_change (C := Try.checked) Try.own started (by kernel_rfl) Try.func6
    (ChangeSpec.witness6 (enc := enc) (C := Try.checked) false ⟨#[], #[.agg #[.int .i64 0, .int .i64 0, .int .i64 0], .agg #[.int .i64 0, .int .i64 0, .int .i64 0]], []⟩ 8 (by kernel_rfl) (by kernel_rfl) (by kernel_rfl) (by kernel_rfl))
    (law_contract (C := Try.checked) Try.laidOut rfl
      (fun ds hd => by
        match ds, hd with
        | [d1, d2], _ => rfl)
      (fun t ht => by
        have : t = 22 ∨ t = 34 := by simpa [Try.params6] using ht
        rcases this with rfl | rfl <;> exact ⟨by kernel_rfl, of_decide_eq_true (by kernel_rfl)⟩)
      (tb := 4) rfl Try.underlying4
      (fun W base args ds ps hval0 hA0 hlt hnf => by
        have hval : ∀ (j : Nat) t v, Try.f6.params[j]? = some t → args[j]? = some v → Value.okWide Try.prog W .any base t v := hval0
        have hA : DataW.TrodAll enc Try.prog W 0 (fun _ => true) true Try.f6.params.toList args.toList ds ps := hA0
        rw [Try.params6] at hA hval
        obtain ⟨v0, v1, d0, d1, p0, p1, rfl, rfl, rfl, h0, h1⟩ := trodAll_two hA
        obtain ⟨a, b, c, rfl, -⟩ := open_arr3 Try.underlying22 Try.underlying3 (by kernel_rfl) (by kernel_rfl) (hval 0 22 v0 rfl rfl) h0
        obtain ⟨lit, len, off, rfl, -, -, -⟩ := open_str3 Try.underlying34 Try.underlying3 (by kernel_rfl) (by kernel_rfl) rfl rfl rfl rfl rfl rfl (hval 1 34 v1 rfl rfl) h1
        exact law_least a b c lit len off W))

theorem repeatLeast_holds : Rows.RepeatLeastSaid :=
  OpenClaim.holds_of_wide 6 Try.f6 rfl rfl rfl rfl rfl rfl rfl ⟨rfl, rfl, rfl, rfl, rfl⟩ rfl rfl rfl rfl rfl (by kernel_rfl) Try.func6 (by kernel_rfl)
    (of_decide_eq_true (by kernel_rfl)) (by unfold Func.isWrapper; first | (rw [if_pos (by decide +kernel)]; kernel_rfl) | (rw [if_neg (by decide +kernel)]; exact ⟨rfl, rfl⟩))
    (fun os started H enc _ => repeatLeast_lifted os started H enc)

#print axioms repeatLeast_holds

end Go.Proofs.Ytldbiohahkcpnaa
