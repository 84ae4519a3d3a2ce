/-
  A cursor over bytes: Varint, Number.
-/
import Derived.Test.YtcmagccfagijlaaGreatQ14
import Derived.Laws.Bits64b
namespace Go.Proofs.YtcmagccfagijlaaGreat
set_option linter.unusedVariables false
set_option linter.unusedSimpArgs false
set_option linter.unusedSectionVars false
open Go.RowKit

/-- A varint: the number, the error, the position behind it. f: how many bytes there may be still; i: how many there were; a: the number so far. -/
def varR (B : List Int) : Nat → Nat → Nat → Nat → Nat × Int × Nat
  | 0, _, _, k => (0, 18, k)
  | f + 1, i, a, k =>
    if k < B.length then
      if 128 ≤ byteX B k then varR B f (i + 1) (a + (byteX B k).toNat % 128 * 2 ^ (7 * i)) (k + 1)
      else if byteX B k = 0 ∧ 0 < i then (0, 5, k + 1)
      else if 4611686018427387903 < a + (byteX B k).toNat % 128 * 2 ^ (7 * i) then (0, 18, k + 1)
      else (a + (byteX B k).toNat % 128 * 2 ^ (7 * i), 0, k + 1)
    else (0, 3, k)

theorem varR_bound (B : List Int) : ∀ (f i a k : Nat), k ≤ B.length → (varR B f i a k).1 < 4611686018427387904 ∧ k ≤ (varR B f i a k).2.2 ∧ (varR B f i a k).2.2 ≤ B.length
  | 0, _, _, k, h => ⟨by simp [varR], by simp [varR], by simpa [varR] using h⟩
  | f + 1, i, a, k, h => by
    unfold varR
    split
    · rename_i hk
      split
      · obtain ⟨h1, h2, h3⟩ := varR_bound B f (i + 1) (a + (byteX B k).toNat % 128 * 2 ^ (7 * i)) (k + 1) hk
        exact ⟨h1, by omega, h3⟩
      · split
        · exact ⟨by simp, by simp, hk⟩
        · split
          · exact ⟨by simp, by simp, hk⟩
          · rename_i hb
            exact ⟨by simp only; omega, by simp, hk⟩
    · exact ⟨by simp, by simp, by simpa using h⟩

theorem and127_all : ∀ x : Fin 256, bits BinOp.and IntKind.u8 ((x.val : Nat) : Int) 127 = ((x.val % 128 : Nat) : Int) := by decide +kernel
theorem and127 {x : Int} (h0 : 0 ≤ x) (h1 : x ≤ 255) : bits BinOp.and IntKind.u8 x 127 = x % 128 := by
  obtain ⟨a, rfl⟩ := Int.eq_ofNat_of_zero_le h0
  have h := and127_all ⟨a, by omega⟩
  simpa using h
/-- The seven bits are laid above the number so far. -/
theorem or_shl {a x i : Nat} (hi : i ≤ 8) (ha : a < 2 ^ (7 * i)) (hx : x < 128) : bits BinOp.or IntKind.u64 (a : Int) ((x * 2 ^ (7 * i) : Nat) : Int) = ((a + x * 2 ^ (7 * i) : Nat) : Int) ∧ a + x * 2 ^ (7 * i) < 2 ^ (7 * (i + 1)) ∧ x * 2 ^ (7 * i) < 18446744073709551616 ∧ a < 18446744073709551616 := by
  have e : 2 ^ (7 * (i + 1)) = 128 * 2 ^ (7 * i) := by rw [Nat.mul_add, Nat.pow_add]; omega
  have h3 : (x + 1) * 2 ^ (7 * i) ≤ 128 * 2 ^ (7 * i) := Nat.mul_le_mul_right _ (by omega)
  rw [Nat.add_mul, Nat.one_mul] at h3
  have h4 : 2 ^ (7 * i) ≤ 2 ^ 56 := Nat.pow_le_pow_right (by decide) (by omega)
  have h5 : (2 : Nat) ^ 56 = 72057594037927936 := by decide
  rw [h5] at h4
  refine ⟨?_, by omega, by omega, by omega⟩
  rw [bits_or_u64_nat _ _ (by omega) (by omega)]
  congr 1
  rw [Nat.or_comm, Nat.mul_comm x, ← Nat.two_pow_add_eq_or_of_lt ha x, Nat.add_comm]

set_option maxRecDepth 100000 in
set_option maxHeartbeats 4000000 in
theorem varint1_any (p h k : Nat) (v : Value) (B : List Int) (w : World) (hc : Cur w p v B k) (hb : Blk w h #[.pointer (some ⟨p, 0, none⟩)] 71) (hhp : h ≠ p) :
    Calls Tryz.prog 132 #[.pointer (some ⟨h, 0, none⟩)] w (CurEnd w p v B (.int .u64 ((varR B 9 0 0 k).1 : Int)) (varR B 9 0 0 k).2.1 (varR B 9 0 0 k).2.2) := by
  obtain ⟨ad, n0, c0, rfl, -, -⟩ := hc.rd.form
  have HC := Lib.hid hc
  have HB := Lib.hid hb
  have HBY := Lib.hid hc.byte
  clear hc hb
  obtain ⟨R, hR⟩ : ∃ R, R = varR B 9 0 0 k := ⟨_, rfl⟩
  rw [← hR]
  have HR0 := Lib.hid hR
  clear hR
  obtain ⟨X, E, K⟩ := R
  dsimp only
  go_enter Tryz.func132, Tryz.ntmps132
  go_wp2_with fail
  go_loopw [3, 7] (fun m i wr => ∃ (j a : Nat), j ≤ 9 ∧ i = .int .i64 j ∧ m = .int .u64 (a : Int) ∧ Hid (a < 2 ^ (7 * j)) ∧ Hid ((X, E, K) = varR B (9 - j) j a (k + j)) ∧ Cur wr p (.slice ad n0 c0) B (k + j) ∧ Keeps w wr [p]) (fun _ i _ => 9 - (intOf i).toNat)
  case atStart => exact ⟨0, 0, by omega, rfl, rfl, (by decide : (0 : Nat) < 2 ^ (7 * 0)), HR0.out, HC.out, Keeps.refl _ _⟩
  case round =>
    obtain ⟨j, a, hj, rfl, rfl, ha, hR, cur, kk⟩ := hrel
    by_cases hlt : j < 9
    · have b1 := HB.out.keeps kk (by simpa using hhp)
      obtain ⟨d0, -⟩ := b1.one
      have CUR := Lib.hid cur
      have HBT := Lib.hid (byte_any p (k + j) (.slice ad n0 c0) B wr cur)
      have hj9 : (j : Int) < 9 := by omega
      clear cur b1
      have hbx : 0 ≤ byteX B (k + j) ∧ byteX B (k + j) ≤ 255 := by
        unfold byteX
        cases hx : B[k + j]? with
        | none => simp
        | some x => exact HBY.out x (List.mem_of_getElem? hx)
      have HRS : Hid (∀ f, 9 - j = f + 1 → varR B (9 - j) j a (k + j) = if k + j < B.length then
      if 128 ≤ byteX B (k + j) then varR B f (j + 1) (a + (byteX B (k + j)).toNat % 128 * 2 ^ (7 * j)) (k + j + 1)
      else if byteX B (k + j) = 0 ∧ 0 < j then (0, 5, k + j + 1)
      else if 4611686018427387903 < a + (byteX B (k + j)).toNat % 128 * 2 ^ (7 * j) then (0, 18, k + j + 1)
      else (a + (byteX B (k + j)).toNat % 128 * 2 ^ (7 * j), 0, k + j + 1)
    else (0, 3, k + j)) := fun f hf => by rw [hf]; rfl
      by_cases hin : k + j < B.length
      · have eE : byteE B (k + j) = 0 := if_pos hin
        have eK : byteK B (k + j) = k + j + 1 := if_pos hin
        rw [eE, eK] at HBT
        generalize byteX B (k + j) = x at *
        have hand := and127 hbx.1 hbx.2
        obtain ⟨o1, o2, o3, o4⟩ := or_shl (x := x.toNat % 128) (by omega : j ≤ 8) ha.out (by omega)
        have hsh : IntKind.u64.wrap (x % 128 * 2 ^ (7 * j)) = ((x.toNat % 128 * 2 ^ (7 * j) : Nat) : Int) := by
          have e : (x % 128 * 2 ^ (7 * j) : Int) = ((x.toNat % 128 * 2 ^ (7 * j) : Nat) : Int) := by
            rw [Int.natCast_mul, Int.natCast_emod, Int.toNat_of_nonneg hbx.1]
            congr 1
          rw [e, IntKind.wrap_u64]
          omega
        generalize x.toNat % 128 * 2 ^ (7 * j) = y at *
        obtain ⟨q, hq⟩ : ∃ q, q = a + y := ⟨_, rfl⟩
        rw [← hq] at o1 o2 HRS
        have O2 := Lib.hid o2
        have HQ := Lib.hid hq
        clear eE eK o2 o3 o4 hq ha
        have HR2 : Hid ((X, E, K) = if 128 ≤ x then varR B (8 - j) (j + 1) q (k + j + 1) else if x = 0 ∧ 0 < j then (0, 5, k + j + 1) else if 4611686018427387903 < q then (0, 18, k + j + 1) else (q, 0, k + j + 1)) := by
          have := hR.out
          rw [HRS.out (8 - j) (by omega), if_pos hin] at this
          exact this
        clear HRS hR
        by_cases hx1 : 128 ≤ x
        · have hr := HR2.out
          rw [if_pos hx1] at hr
          have HR3 := Lib.hid hr
          clear hr HR2
          go_wp2_with (go_at_call 129; refine HBT.out.mono ?_; rintro e w2 ⟨rfl, cur2, k2⟩)
          refine ⟨⟨j + 1, q, by omega, rfl, rfl, O2.out, ?_, ?_, kk.trans k2 (fun i hi _ => hi)⟩, ?_⟩
          · show _ = varR B (9 - (j + 1)) (j + 1) q (k + (j + 1))
            rw [show 9 - (j + 1) = 8 - j by omega, show k + (j + 1) = k + j + 1 by omega]
            exact HR3.out
          · rw [show k + (j + 1) = k + j + 1 by omega]; exact cur2
          · simp [intOf]; omega
        · have hx1' : decide (128 ≤ x) = false := decide_eq_false hx1
          by_cases hx0 : x = 0 ∧ 0 < j
          · have hr := HR2.out
            rw [if_neg hx1, if_pos hx0] at hr
            obtain ⟨rfl, hj0⟩ := hx0
            cases hr
            have hj0' : (0 : Int) < (j : Int) := by omega
            clear HR2
            go_wp2_with (go_at_call 129; refine HBT.out.mono ?_; rintro e w2 ⟨rfl, cur2, k2⟩)
            exact bodyPost_ret (v := .tuple #[.int .u64 (0), .int .i64 5]) (by simp [results, Tryz.results132]) rfl ⟨rfl, cur2, kk.trans k2 (fun i hi _ => hi)⟩
          · have hr := HR2.out
            rw [if_neg hx1, if_neg hx0] at hr
            have hguard : (x == 0) = false ∨ ((x == 0) = true ∧ ¬ 0 < j) := by
              by_cases hz : x = 0
              · exact .inr ⟨by simp [hz], by omega⟩
              · exact .inl (by simpa using hz)
            clear HR2
            by_cases hbig : 4611686018427387903 < q
            · have hbig' : (4611686018427387903 : Int) < (q : Int) := by omega
              rw [if_pos hbig] at hr
              cases hr
              rcases hguard with hg | ⟨hg, hg2⟩
              all_goals
                go_wp2_with (go_at_call 129; refine HBT.out.mono ?_; rintro e w2 ⟨rfl, cur2, k2⟩)
                all_goals (first | (exfalso; omega) | exact bodyPost_ret (v := .tuple #[.int .u64 (0), .int .i64 18]) (by simp [results, Tryz.results132]) rfl ⟨rfl, cur2, kk.trans k2 (fun i hi _ => hi)⟩)
            · have hbig' : decide ((4611686018427387903 : Int) < (q : Int)) = false := decide_eq_false (by omega)
              rw [if_neg hbig] at hr
              cases hr
              rcases hguard with hg | ⟨hg, hg2⟩
              all_goals
                go_wp2_with (go_at_call 129; refine HBT.out.mono ?_; rintro e w2 ⟨rfl, cur2, k2⟩)
                all_goals (first | (exfalso; omega) | exact bodyPost_ret (v := .tuple #[.int .u64 (X : Int), .int .i64 0]) (by simp [results, Tryz.results132]) rfl ⟨rfl, cur2, kk.trans k2 (fun i hi _ => hi)⟩)
      · have eE : byteE B (k + j) = 3 := if_neg hin
        have eK : byteK B (k + j) = k + j := if_neg hin
        rw [eE, eK] at HBT
        have hr := hR.out
        rw [HRS.out (8 - j) (by omega), if_neg hin] at hr
        cases hr
        generalize byteX B (k + j) = x at *
        clear eE eK HRS hR
        go_wp2_with (go_at_call 129; refine HBT.out.mono ?_; rintro e w2 ⟨rfl, cur2, k2⟩)
        exact bodyPost_ret (v := .tuple #[.int .u64 (0), .int .i64 3]) (by simp [results, Tryz.results132]) rfl ⟨rfl, cur2, kk.trans k2 (fun i hi _ => hi)⟩
    · obtain rfl : j = 9 := by omega
      have hr := hR.out
      cases hr
      have CUR := Lib.hid cur
      clear cur hR ha
      go_wp2_with fail
      exact bodyPost_ret (v := .tuple #[.int .u64 (0), .int .i64 18]) (by simp [results, Tryz.results132]) rfl ⟨rfl, CUR.out, kk⟩

theorem varR_zero (B : List Int) : ∀ (f i a k : Nat), (varR B f i a k).2.1 ≠ 0 → (varR B f i a k).1 = 0
  | 0, _, _, _, _ => rfl
  | f + 1, i, a, k, h => by
    unfold varR at h ⊢
    split at h
    · rename_i hk
      rw [if_pos hk]
      split at h
      · rename_i hx; rw [if_pos hx]; exact varR_zero B f _ _ _ h
      · rename_i hx
        rw [if_neg hx]
        split at h
        · rename_i h0; rw [if_pos h0]
        · rename_i h0
          rw [if_neg h0]
          split at h
          · rename_i hb; rw [if_pos hb]
          · exact absurd rfl h
    · rename_i hk; rw [if_neg hk]

/-- A varint at k: the number, the error, the position behind it. -/
def varX (B : List Int) (k : Nat) : Nat := (varR B 9 0 0 k).1
def varE (B : List Int) (k : Nat) : Int := (varR B 9 0 0 k).2.1
def varK (B : List Int) (k : Nat) : Nat := if varE B k = 0 then (varR B 9 0 0 k).2.2 else k

set_option maxRecDepth 100000 in
theorem varint_any (p k : Nat) (v : Value) (B : List Int) (w : World) (hc : Cur w p v B k) :
    Calls Tryz.prog 91 #[.pointer (some ⟨p, 0, none⟩)] w (CurEnd w p v B (.int .u64 (varX B k : Int)) (varE B k) (varK B k)) := by
  have hp := hc.old.1
  have k0 : Keeps w (w.alloc (.cells #[.pointer (some ⟨p, 0, none⟩)] 71)) [] := (Keeps.refl w []).alloc _
  have b0 := Blk.new w #[.pointer (some ⟨p, 0, none⟩)] 71
  have h := readU64_any p k (varR B 9 0 0 k).2.2 v B (w.alloc (.cells #[.pointer (some ⟨p, 0, none⟩)] 71)) #[.pointer (some ⟨w.heap.size, 0, none⟩)] ((varR B 9 0 0 k).1 : Int) (varR B 9 0 0 k).2.1 (hc.keeps k0)
    (fun w1 k1 => varint1_any p w.heap.size k v B w1 ((hc.keeps k0).keeps k1) (b0.keeps k1 (by simp)) (by omega))
  have e1 : (if (varR B 9 0 0 k).2.1 = 0 then ((varR B 9 0 0 k).1 : Int) else 0) = (varX B k : Int) := by
    unfold varX
    split
    · rfl
    · rename_i hne; rw [varR_zero B 9 0 0 k hne]; rfl
  rw [e1] at h
  have H : Hid (Calls Tryz.prog 131 #[.pointer (some ⟨p, 0, none⟩), .func (.func 132) #[] #[.pointer (some ⟨w.heap.size, 0, none⟩)]] (w.alloc (.cells #[.pointer (some ⟨p, 0, none⟩)] 71))
    (CurEnd (w.alloc (.cells #[.pointer (some ⟨p, 0, none⟩)] 71)) p v B (.int .u64 (varX B k : Int)) (varE B k) (varK B k))) := h
  clear h hc e1
  generalize varX B k = X at *
  generalize varE B k = E at *
  generalize varK B k = K' at *
  go_enter Tryz.func91, Tryz.ntmps91
  go_wp2_with (refine H.out.mono ?_; rintro e w1 ⟨rfl, cur1, k1⟩)
  exact bodyPost_ret (v := .tuple #[.int .u64 (X : Int), .int .i64 E]) (by simp [results, Tryz.results91]) rfl ⟨rfl, cur1, (k0.mono (by simp)).trans k1 (fun j hj _ => hj)⟩


end Go.Proofs.YtcmagccfagijlaaGreat
