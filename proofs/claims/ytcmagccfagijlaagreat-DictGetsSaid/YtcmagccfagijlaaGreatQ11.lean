/-
  Walks over package dict: the deferred function of Get.
  A cursor over bytes: Varint, Number.
  A cursor over bytes: Number.
  Walks over package dict: Get, for a raw dictionary and where full panics.
  Walks over the reference of package dict: sameInts, the tables' Same, Same, where both are equal.
  Arrays of three numbers are compared.
  Walks over the reference of package dict: Same, where both are equal.
  Walks over package dict: plain, Valid, at a raw dictionary. (Printed by mkDG.py.)
-/
import Derived.Test.YtcmagccfagijlaaGreatQ10
import Derived.Test.YtcmagccfagijlaaGreatQ8
import Derived.Laws.Bits64b
import Derived.Test.YtcmagccfagijlaaGreatQ9
import Derived.Test.YtcmagccfagijlaaGreatQ5
import Derived.Test.YtcmagccfagijlaaGreatRows
import Derived.ChangeKeysEq
import Derived.Test.YtcmagccfagijlaaGreatQ1
namespace Go.Proofs.YtcmagccfagijlaaGreat
section
set_option linter.unusedVariables false
set_option linter.unusedSimpArgs false
set_option linter.unusedSectionVars false
open Go.RowKit

theorem zset {w : World} {b : Nat} {cs : Array Value} {T : TypeId} (h : Blk w b cs T) (i : Nat) (v : Value) (hv : cs.setIfInBounds i v = cs) : Blk (w.setCell ⟨b, i, none⟩ v) b cs T := by
  have := h.set i v
  rwa [hv] at this
theorem zone {w : World} {b : Nat} {x : Value} {T : TypeId} (h : Blk w b #[x] T) (v : Value) : Blk (w.setCell ⟨b, 0, none⟩ v) b #[v] T := by
  have := h.set 0 v
  simpa using this

set_option maxRecDepth 100000 in
set_option maxHeartbeats 4000000 in
/-- The deferred function of Get where an error was raised: the results are laid. -/
theorem dget_back (pd pe : Nat) (n : Int) (z : Value) (older : List PanicEntry) (w : World) (hd : Blk w pd zeroC 32) (he : Blk w pe #[z] 33) (hne : pd ≠ pe) :
    CallsD Tryz.prog 47 #[.pointer (some ⟨pd, 0, none⟩), .pointer (some ⟨pe, 0, none⟩)] (.panicking (raisedBy n false :: older)) w fun e u' w' =>
      e = .returned (.tuple #[]) ∧ u' = .panicking (raisedBy n true :: older) ∧ Blk w' pd zeroC 32 ∧ Blk w' pe #[.int .i64 n] 33 ∧ Keeps w w' [pd, pe] := by
  obtain ⟨c0, f0⟩ := he.one
  have hta : ∀ w : World, (Instr.typeAssert (.iface 33 (.int .i64 n)) 20 33 false).run Tryz.prog w = .ok (.int .i64 n) w := fun _ => by kernel_rfl
  have hne' := hne.symm
  refine callsD_of_wpS Tryz.func47 rfl fun c₀ cs hu => ?_
  simp only [Tryz.ntmps47, List.size_toArray, List.length_cons, List.length_nil, Nat.reduceAdd, Nat.reduceSub, Array.replicate_succ, Array.replicate_zero, List.push_toArray, List.append_toArray, List.nil_append, List.cons_append]
  apply wpS_seq
  apply wpS_region
  simp [wpOpsS, go_sem, recoverD, hu, Exit.thenS, raisedBy]
  refine wpS_of_wp ?_
  have HU := Lib.hid hu
  clear hu
  have z0 : w.cell? ⟨pd, 0, none⟩ = some (.int .u32 0) := hd.cell 0
  have z1 : w.cell? ⟨pd, 1, none⟩ = some nilV := hd.cell 1
  have z2 : w.cell? ⟨pd, 2, none⟩ = some (.int .i64 0) := hd.cell 2
  have z3 : w.cell? ⟨pd, 3, none⟩ = some nilV := hd.cell 3
  have z4 : w.cell? ⟨pd, 4, none⟩ = some (.int .i64 0) := hd.cell 4
  have z5 : w.cell? ⟨pd, 5, none⟩ = some nilV := hd.cell 5
  have z6 : w.cell? ⟨pd, 6, none⟩ = some (.int .i64 0) := hd.cell 6
  have z7 : w.cell? ⟨pd, 7, none⟩ = some nilV := hd.cell 7
  have z8 : w.cell? ⟨pd, 8, none⟩ = some (.int .i64 0) := hd.cell 8
  have z9 : w.cell? ⟨pd, 9, none⟩ = some (.int .i64 0) := hd.cell 9
  have za : w.cell? ⟨pd, 10, none⟩ = some (.int .i64 0) := hd.cell 10
  have zb : w.cell? ⟨pd, 11, none⟩ = some nilV := hd.cell 11
  have y : ∀ i, w.frozen? ⟨pd, i, none⟩ = false := fun i => hd.frozen i
  have HD := Lib.hid hd
  have HE := Lib.hid he
  clear hd he
  go_wp2_with fail
  go_region
  have k0 : Keeps w w [pd, pe] := Keeps.refl w _
  have b := HD.out
  have d := HE.out
  replace k0 := k0.setCell (a := ⟨pd, 0, none⟩) (.inr (by simp)) (.int .u32 0)
  replace d := d.setOther (a := ⟨pd, 0, none⟩) (by dsimp only; exact hne) (.int .u32 0)
  replace b := zset b 0 (.int .u32 0) (by rfl)
  replace k0 := k0.setCell (a := ⟨pd, 1, none⟩) (.inr (by simp)) (nilV)
  replace d := d.setOther (a := ⟨pd, 1, none⟩) (by dsimp only; exact hne) (nilV)
  replace b := zset b 1 (nilV) (by rfl)
  replace k0 := k0.setCell (a := ⟨pd, 2, none⟩) (.inr (by simp)) (.int .i64 0)
  replace d := d.setOther (a := ⟨pd, 2, none⟩) (by dsimp only; exact hne) (.int .i64 0)
  replace b := zset b 2 (.int .i64 0) (by rfl)
  replace k0 := k0.setCell (a := ⟨pd, 3, none⟩) (.inr (by simp)) (nilV)
  replace d := d.setOther (a := ⟨pd, 3, none⟩) (by dsimp only; exact hne) (nilV)
  replace b := zset b 3 (nilV) (by rfl)
  replace k0 := k0.setCell (a := ⟨pd, 4, none⟩) (.inr (by simp)) (.int .i64 0)
  replace d := d.setOther (a := ⟨pd, 4, none⟩) (by dsimp only; exact hne) (.int .i64 0)
  replace b := zset b 4 (.int .i64 0) (by rfl)
  replace k0 := k0.setCell (a := ⟨pd, 5, none⟩) (.inr (by simp)) (nilV)
  replace d := d.setOther (a := ⟨pd, 5, none⟩) (by dsimp only; exact hne) (nilV)
  replace b := zset b 5 (nilV) (by rfl)
  replace k0 := k0.setCell (a := ⟨pd, 6, none⟩) (.inr (by simp)) (.int .i64 0)
  replace d := d.setOther (a := ⟨pd, 6, none⟩) (by dsimp only; exact hne) (.int .i64 0)
  replace b := zset b 6 (.int .i64 0) (by rfl)
  replace k0 := k0.setCell (a := ⟨pd, 7, none⟩) (.inr (by simp)) (nilV)
  replace d := d.setOther (a := ⟨pd, 7, none⟩) (by dsimp only; exact hne) (nilV)
  replace b := zset b 7 (nilV) (by rfl)
  replace k0 := k0.setCell (a := ⟨pd, 8, none⟩) (.inr (by simp)) (.int .i64 0)
  replace d := d.setOther (a := ⟨pd, 8, none⟩) (by dsimp only; exact hne) (.int .i64 0)
  replace b := zset b 8 (.int .i64 0) (by rfl)
  replace k0 := k0.setCell (a := ⟨pd, 9, none⟩) (.inr (by simp)) (.int .i64 0)
  replace d := d.setOther (a := ⟨pd, 9, none⟩) (by dsimp only; exact hne) (.int .i64 0)
  replace b := zset b 9 (.int .i64 0) (by rfl)
  replace k0 := k0.setCell (a := ⟨pd, 10, none⟩) (.inr (by simp)) (.int .i64 0)
  replace d := d.setOther (a := ⟨pd, 10, none⟩) (by dsimp only; exact hne) (.int .i64 0)
  replace b := zset b 10 (.int .i64 0) (by rfl)
  replace k0 := k0.setCell (a := ⟨pd, 11, none⟩) (.inr (by simp)) (nilV)
  replace d := d.setOther (a := ⟨pd, 11, none⟩) (by dsimp only; exact hne) (nilV)
  replace b := zset b 11 (nilV) (by rfl)
  replace k0 := (k0.setCell (a := ⟨pe, 0, none⟩) (.inr (by simp)) (.int .i64 n)).drew
  replace b := (b.setOther (a := ⟨pe, 0, none⟩) (by dsimp only; exact hne') (.int .i64 n)).drew
  have d2 := zone d (.int .i64 n)
  replace d := d2.drew
  refine ⟨rfl, .panicking (raisedBy n true :: older), ?_, .tuple #[], by simp [results, Tryz.results47], rfl, rfl, b, d, k0⟩
  simp [raisedBy]
end

section
set_option linter.unusedVariables false
set_option linter.unusedSimpArgs false
set_option linter.unusedSectionVars false
open Go.RowKit

/-- A varint: the number, the error, the position behind it. f: how many bytes there may be still; i: how many there were; a: the number so far. -/
def varR (B : List Int) : Nat → Nat → Nat → Nat → Nat × Int × Nat
  | 0, _, _, k => (0, 18, k)
  | f + 1, i, a, k =>
    if k < B.length then
      if 128 ≤ byteX B k then varR B f (i + 1) (a + (byteX B k).toNat % 128 * 2 ^ (7 * i)) (k + 1)
      else if byteX B k = 0 ∧ 0 < i then (0, 5, k + 1)
      else if 4611686018427387903 < a + (byteX B k).toNat % 128 * 2 ^ (7 * i) then (0, 18, k + 1)
      else (a + (byteX B k).toNat % 128 * 2 ^ (7 * i), 0, k + 1)
    else (0, 3, k)

theorem varR_bound (B : List Int) : ∀ (f i a k : Nat), k ≤ B.length → (varR B f i a k).1 < 4611686018427387904 ∧ k ≤ (varR B f i a k).2.2 ∧ (varR B f i a k).2.2 ≤ B.length
  | 0, _, _, k, h => ⟨by simp [varR], by simp [varR], by simpa [varR] using h⟩
  | f + 1, i, a, k, h => by
    unfold varR
    split
    · rename_i hk
      split
      · obtain ⟨h1, h2, h3⟩ := varR_bound B f (i + 1) (a + (byteX B k).toNat % 128 * 2 ^ (7 * i)) (k + 1) hk
        exact ⟨h1, by omega, h3⟩
      · split
        · exact ⟨by simp, by simp, hk⟩
        · split
          · exact ⟨by simp, by simp, hk⟩
          · rename_i hb
            exact ⟨by simp only; omega, by simp, hk⟩
    · exact ⟨by simp, by simp, by simpa using h⟩

theorem and127_all : ∀ x : Fin 256, bits BinOp.and IntKind.u8 ((x.val : Nat) : Int) 127 = ((x.val % 128 : Nat) : Int) := by decide +kernel
theorem and127 {x : Int} (h0 : 0 ≤ x) (h1 : x ≤ 255) : bits BinOp.and IntKind.u8 x 127 = x % 128 := by
  obtain ⟨a, rfl⟩ := Int.eq_ofNat_of_zero_le h0
  have h := and127_all ⟨a, by omega⟩
  simpa using h
/-- The seven bits are laid above the number so far. -/
theorem or_shl {a x i : Nat} (hi : i ≤ 8) (ha : a < 2 ^ (7 * i)) (hx : x < 128) : bits BinOp.or IntKind.u64 (a : Int) ((x * 2 ^ (7 * i) : Nat) : Int) = ((a + x * 2 ^ (7 * i) : Nat) : Int) ∧ a + x * 2 ^ (7 * i) < 2 ^ (7 * (i + 1)) ∧ x * 2 ^ (7 * i) < 18446744073709551616 ∧ a < 18446744073709551616 := by
  have e : 2 ^ (7 * (i + 1)) = 128 * 2 ^ (7 * i) := by rw [Nat.mul_add, Nat.pow_add]; omega
  have h3 : (x + 1) * 2 ^ (7 * i) ≤ 128 * 2 ^ (7 * i) := Nat.mul_le_mul_right _ (by omega)
  rw [Nat.add_mul, Nat.one_mul] at h3
  have h4 : 2 ^ (7 * i) ≤ 2 ^ 56 := Nat.pow_le_pow_right (by decide) (by omega)
  have h5 : (2 : Nat) ^ 56 = 72057594037927936 := by decide
  rw [h5] at h4
  refine ⟨?_, by omega, by omega, by omega⟩
  rw [bits_or_u64_nat _ _ (by omega) (by omega)]
  congr 1
  rw [Nat.or_comm, Nat.mul_comm x, ← Nat.two_pow_add_eq_or_of_lt ha x, Nat.add_comm]

set_option maxRecDepth 100000 in
set_option maxHeartbeats 4000000 in
theorem varint1_any (p h k : Nat) (v : Value) (B : List Int) (w : World) (hc : Cur w p v B k) (hb : Blk w h #[.pointer (some ⟨p, 0, none⟩)] 71) (hhp : h ≠ p) :
    Calls Tryz.prog 132 #[.pointer (some ⟨h, 0, none⟩)] w (CurEnd w p v B (.int .u64 ((varR B 9 0 0 k).1 : Int)) (varR B 9 0 0 k).2.1 (varR B 9 0 0 k).2.2) := by
  obtain ⟨ad, n0, c0, rfl, -, -⟩ := hc.rd.form
  have HC := Lib.hid hc
  have HB := Lib.hid hb
  have HBY := Lib.hid hc.byte
  clear hc hb
  obtain ⟨R, hR⟩ : ∃ R, R = varR B 9 0 0 k := ⟨_, rfl⟩
  rw [← hR]
  have HR0 := Lib.hid hR
  clear hR
  obtain ⟨X, E, K⟩ := R
  dsimp only
  go_enter Tryz.func132, Tryz.ntmps132
  go_wp2_with fail
  go_loopw [3, 7] (fun m i wr => ∃ (j a : Nat), j ≤ 9 ∧ i = .int .i64 j ∧ m = .int .u64 (a : Int) ∧ Hid (a < 2 ^ (7 * j)) ∧ Hid ((X, E, K) = varR B (9 - j) j a (k + j)) ∧ Cur wr p (.slice ad n0 c0) B (k + j) ∧ Keeps w wr [p]) (fun _ i _ => 9 - (intOf i).toNat)
  case atStart => exact ⟨0, 0, by omega, rfl, rfl, (by decide : (0 : Nat) < 2 ^ (7 * 0)), HR0.out, HC.out, Keeps.refl _ _⟩
  case round =>
    obtain ⟨j, a, hj, rfl, rfl, ha, hR, cur, kk⟩ := hrel
    by_cases hlt : j < 9
    · have b1 := HB.out.keeps kk (by simpa using hhp)
      obtain ⟨d0, -⟩ := b1.one
      have CUR := Lib.hid cur
      have HBT := Lib.hid (byte_any p (k + j) (.slice ad n0 c0) B wr cur)
      have hj9 : (j : Int) < 9 := by omega
      clear cur b1
      have hbx : 0 ≤ byteX B (k + j) ∧ byteX B (k + j) ≤ 255 := by
        unfold byteX
        cases hx : B[k + j]? with
        | none => simp
        | some x => exact HBY.out x (List.mem_of_getElem? hx)
      have HRS : Hid (∀ f, 9 - j = f + 1 → varR B (9 - j) j a (k + j) = if k + j < B.length then
      if 128 ≤ byteX B (k + j) then varR B f (j + 1) (a + (byteX B (k + j)).toNat % 128 * 2 ^ (7 * j)) (k + j + 1)
      else if byteX B (k + j) = 0 ∧ 0 < j then (0, 5, k + j + 1)
      else if 4611686018427387903 < a + (byteX B (k + j)).toNat % 128 * 2 ^ (7 * j) then (0, 18, k + j + 1)
      else (a + (byteX B (k + j)).toNat % 128 * 2 ^ (7 * j), 0, k + j + 1)
    else (0, 3, k + j)) := fun f hf => by rw [hf]; rfl
      by_cases hin : k + j < B.length
      · have eE : byteE B (k + j) = 0 := if_pos hin
        have eK : byteK B (k + j) = k + j + 1 := if_pos hin
        rw [eE, eK] at HBT
        generalize byteX B (k + j) = x at *
        have hand := and127 hbx.1 hbx.2
        obtain ⟨o1, o2, o3, o4⟩ := or_shl (x := x.toNat % 128) (by omega : j ≤ 8) ha.out (by omega)
        have hsh : IntKind.u64.wrap (x % 128 * 2 ^ (7 * j)) = ((x.toNat % 128 * 2 ^ (7 * j) : Nat) : Int) := by
          have e : (x % 128 * 2 ^ (7 * j) : Int) = ((x.toNat % 128 * 2 ^ (7 * j) : Nat) : Int) := by
            rw [Int.natCast_mul, Int.natCast_emod, Int.toNat_of_nonneg hbx.1]
            congr 1
          rw [e, IntKind.wrap_u64]
          omega
        generalize x.toNat % 128 * 2 ^ (7 * j) = y at *
        obtain ⟨q, hq⟩ : ∃ q, q = a + y := ⟨_, rfl⟩
        rw [← hq] at o1 o2 HRS
        have O2 := Lib.hid o2
        have HQ := Lib.hid hq
        clear eE eK o2 o3 o4 hq ha
        have HR2 : Hid ((X, E, K) = if 128 ≤ x then varR B (8 - j) (j + 1) q (k + j + 1) else if x = 0 ∧ 0 < j then (0, 5, k + j + 1) else if 4611686018427387903 < q then (0, 18, k + j + 1) else (q, 0, k + j + 1)) := by
          have := hR.out
          rw [HRS.out (8 - j) (by omega), if_pos hin] at this
          exact this
        clear HRS hR
        by_cases hx1 : 128 ≤ x
        · have hr := HR2.out
          rw [if_pos hx1] at hr
          have HR3 := Lib.hid hr
          clear hr HR2
          go_wp2_with (go_at_call 129; refine HBT.out.mono ?_; rintro e w2 ⟨rfl, cur2, k2⟩)
          refine ⟨⟨j + 1, q, by omega, rfl, rfl, O2.out, ?_, ?_, kk.trans k2 (fun i hi _ => hi)⟩, ?_⟩
          · show _ = varR B (9 - (j + 1)) (j + 1) q (k + (j + 1))
            rw [show 9 - (j + 1) = 8 - j by omega, show k + (j + 1) = k + j + 1 by omega]
            exact HR3.out
          · rw [show k + (j + 1) = k + j + 1 by omega]; exact cur2
          · simp [intOf]; omega
        · have hx1' : decide (128 ≤ x) = false := decide_eq_false hx1
          by_cases hx0 : x = 0 ∧ 0 < j
          · have hr := HR2.out
            rw [if_neg hx1, if_pos hx0] at hr
            obtain ⟨rfl, hj0⟩ := hx0
            cases hr
            have hj0' : (0 : Int) < (j : Int) := by omega
            clear HR2
            go_wp2_with (go_at_call 129; refine HBT.out.mono ?_; rintro e w2 ⟨rfl, cur2, k2⟩)
            exact bodyPost_ret (v := .tuple #[.int .u64 (0), .int .i64 5]) (by simp [results, Tryz.results132]) rfl ⟨rfl, cur2, kk.trans k2 (fun i hi _ => hi)⟩
          · have hr := HR2.out
            rw [if_neg hx1, if_neg hx0] at hr
            have hguard : (x == 0) = false ∨ ((x == 0) = true ∧ ¬ 0 < j) := by
              by_cases hz : x = 0
              · exact .inr ⟨by simp [hz], by omega⟩
              · exact .inl (by simpa using hz)
            clear HR2
            by_cases hbig : 4611686018427387903 < q
            · have hbig' : (4611686018427387903 : Int) < (q : Int) := by omega
              rw [if_pos hbig] at hr
              cases hr
              rcases hguard with hg | ⟨hg, hg2⟩
              all_goals
                go_wp2_with (go_at_call 129; refine HBT.out.mono ?_; rintro e w2 ⟨rfl, cur2, k2⟩)
                all_goals (first | (exfalso; omega) | exact bodyPost_ret (v := .tuple #[.int .u64 (0), .int .i64 18]) (by simp [results, Tryz.results132]) rfl ⟨rfl, cur2, kk.trans k2 (fun i hi _ => hi)⟩)
            · have hbig' : decide ((4611686018427387903 : Int) < (q : Int)) = false := decide_eq_false (by omega)
              rw [if_neg hbig] at hr
              cases hr
              rcases hguard with hg | ⟨hg, hg2⟩
              all_goals
                go_wp2_with (go_at_call 129; refine HBT.out.mono ?_; rintro e w2 ⟨rfl, cur2, k2⟩)
                all_goals (first | (exfalso; omega) | exact bodyPost_ret (v := .tuple #[.int .u64 (X : Int), .int .i64 0]) (by simp [results, Tryz.results132]) rfl ⟨rfl, cur2, kk.trans k2 (fun i hi _ => hi)⟩)
      · have eE : byteE B (k + j) = 3 := if_neg hin
        have eK : byteK B (k + j) = k + j := if_neg hin
        rw [eE, eK] at HBT
        have hr := hR.out
        rw [HRS.out (8 - j) (by omega), if_neg hin] at hr
        cases hr
        generalize byteX B (k + j) = x at *
        clear eE eK HRS hR
        go_wp2_with (go_at_call 129; refine HBT.out.mono ?_; rintro e w2 ⟨rfl, cur2, k2⟩)
        exact bodyPost_ret (v := .tuple #[.int .u64 (0), .int .i64 3]) (by simp [results, Tryz.results132]) rfl ⟨rfl, cur2, kk.trans k2 (fun i hi _ => hi)⟩
    · obtain rfl : j = 9 := by omega
      have hr := hR.out
      cases hr
      have CUR := Lib.hid cur
      clear cur hR ha
      go_wp2_with fail
      exact bodyPost_ret (v := .tuple #[.int .u64 (0), .int .i64 18]) (by simp [results, Tryz.results132]) rfl ⟨rfl, CUR.out, kk⟩

theorem varR_zero (B : List Int) : ∀ (f i a k : Nat), (varR B f i a k).2.1 ≠ 0 → (varR B f i a k).1 = 0
  | 0, _, _, _, _ => rfl
  | f + 1, i, a, k, h => by
    unfold varR at h ⊢
    split at h
    · rename_i hk
      rw [if_pos hk]
      split at h
      · rename_i hx; rw [if_pos hx]; exact varR_zero B f _ _ _ h
      · rename_i hx
        rw [if_neg hx]
        split at h
        · rename_i h0; rw [if_pos h0]
        · rename_i h0
          rw [if_neg h0]
          split at h
          · rename_i hb; rw [if_pos hb]
          · exact absurd rfl h
    · rename_i hk; rw [if_neg hk]

/-- A varint at k: the number, the error, the position behind it. -/
def varX (B : List Int) (k : Nat) : Nat := (varR B 9 0 0 k).1
def varE (B : List Int) (k : Nat) : Int := (varR B 9 0 0 k).2.1
def varK (B : List Int) (k : Nat) : Nat := if varE B k = 0 then (varR B 9 0 0 k).2.2 else k

set_option maxRecDepth 100000 in
theorem varint_any (p k : Nat) (v : Value) (B : List Int) (w : World) (hc : Cur w p v B k) :
    Calls Tryz.prog 91 #[.pointer (some ⟨p, 0, none⟩)] w (CurEnd w p v B (.int .u64 (varX B k : Int)) (varE B k) (varK B k)) := by
  have hp := hc.old.1
  have k0 : Keeps w (w.alloc (.cells #[.pointer (some ⟨p, 0, none⟩)] 71)) [] := (Keeps.refl w []).alloc _
  have b0 := Blk.new w #[.pointer (some ⟨p, 0, none⟩)] 71
  have h := readU64_any p k (varR B 9 0 0 k).2.2 v B (w.alloc (.cells #[.pointer (some ⟨p, 0, none⟩)] 71)) #[.pointer (some ⟨w.heap.size, 0, none⟩)] ((varR B 9 0 0 k).1 : Int) (varR B 9 0 0 k).2.1 (hc.keeps k0)
    (fun w1 k1 => varint1_any p w.heap.size k v B w1 ((hc.keeps k0).keeps k1) (b0.keeps k1 (by simp)) (by omega))
  have e1 : (if (varR B 9 0 0 k).2.1 = 0 then ((varR B 9 0 0 k).1 : Int) else 0) = (varX B k : Int) := by
    unfold varX
    split
    · rfl
    · rename_i hne; rw [varR_zero B 9 0 0 k hne]; rfl
  rw [e1] at h
  have H : Hid (Calls Tryz.prog 131 #[.pointer (some ⟨p, 0, none⟩), .func (.func 132) #[] #[.pointer (some ⟨w.heap.size, 0, none⟩)]] (w.alloc (.cells #[.pointer (some ⟨p, 0, none⟩)] 71))
    (CurEnd (w.alloc (.cells #[.pointer (some ⟨p, 0, none⟩)] 71)) p v B (.int .u64 (varX B k : Int)) (varE B k) (varK B k))) := h
  clear h hc e1
  generalize varX B k = X at *
  generalize varE B k = E at *
  generalize varK B k = K' at *
  go_enter Tryz.func91, Tryz.ntmps91
  go_wp2_with (refine H.out.mono ?_; rintro e w1 ⟨rfl, cur1, k1⟩)
  exact bodyPost_ret (v := .tuple #[.int .u64 (X : Int), .int .i64 E]) (by simp [results, Tryz.results91]) rfl ⟨rfl, cur1, (k0.mono (by simp)).trans k1 (fun j hj _ => hj)⟩
end

section
set_option linter.unusedVariables false
set_option linter.unusedSimpArgs false
set_option linter.unusedSectionVars false
open Go.RowKit

theorem varX_lt {B : List Int} {k : Nat} (h : k ≤ B.length) : varX B k < 4611686018427387904 := (varR_bound B 9 0 0 k h).1
/-- A varint of at most M. -/
def numE (B : List Int) (k M : Nat) : Int := if varE B k = 0 ∧ M < varX B k then 18 else varE B k
def numX (B : List Int) (k M : Nat) : Nat := if numE B k M = 0 then varX B k else 0
def numK (B : List Int) (k M : Nat) : Nat := if numE B k M = 0 then varK B k else k

set_option maxRecDepth 100000 in
set_option maxHeartbeats 4000000 in
theorem number1_any (p h hm k M : Nat) (v : Value) (B : List Int) (w : World) (hc : Cur w p v B k) (hb : Blk w h #[.pointer (some ⟨p, 0, none⟩)] 71) (hq : Blk w hm #[.int .i64 (M : Int)] 3) (hM : M < 4611686018427387904) (hnp : hm ≠ p) :
    Calls Tryz.prog 134 #[.pointer (some ⟨h, 0, none⟩), .pointer (some ⟨hm, 0, none⟩)] w (CurEnd w p v B (.int .i64 (varX B k : Int)) (numE B k M) (varK B k)) := by
  have HV := Lib.hid (varint_any p k v B w hc)
  have hX := varX_lt hc.le
  have HQ := Lib.hid hq
  obtain ⟨b0, -⟩ := hb.one
  have hE : Hid (numE B k M = if varE B k = 0 ∧ M < varX B k then 18 else varE B k) := rfl
  have hmx : max (M : Int) 0 = (M : Int) := by omega
  have hmm : (M : Int) % 18446744073709551616 = (M : Int) := by omega
  clear hc hb hq
  generalize varX B k = X at *
  generalize varE B k = E at *
  generalize varK B k = K at *
  generalize numE B k M = NE at *
  have hwx : IntKind.i64.wrap (X : Int) = (X : Int) := IntWalk.i64_in _ ⟨by omega, by omega⟩
  by_cases h0 : E = 0
  · subst h0
    by_cases hbig : M < X
    · have hbig' : decide ((M : Int) < (X : Int)) = true := decide_eq_true (by omega)
      have he := hE.out
      rw [if_pos ⟨rfl, hbig⟩] at he
      subst he
      go_enter Tryz.func134, Tryz.ntmps134
      go_wp2_with (refine HV.out.mono ?_; rintro e w2 ⟨rfl, cur2, k2⟩; obtain ⟨m0, -⟩ := (HQ.out.keeps k2 (by simpa using hnp)).one)
      exact bodyPost_ret (v := .tuple #[.int .i64 (X : Int), .int .i64 18]) (by simp [results, Tryz.results134]) rfl ⟨rfl, cur2, k2⟩
    · have hbig' : decide ((M : Int) < (X : Int)) = false := decide_eq_false (by omega)
      have he := hE.out
      rw [if_neg (fun h => hbig h.2)] at he
      subst he
      go_enter Tryz.func134, Tryz.ntmps134
      go_wp2_with (refine HV.out.mono ?_; rintro e w2 ⟨rfl, cur2, k2⟩; obtain ⟨m0, -⟩ := (HQ.out.keeps k2 (by simpa using hnp)).one)
      exact bodyPost_ret (v := .tuple #[.int .i64 (X : Int), .int .i64 0]) (by simp [results, Tryz.results134]) rfl ⟨rfl, cur2, k2⟩
  · have hE0 : (E == 0) = false := by simpa using h0
    have he := hE.out
    rw [if_neg (fun h => h0 h.1)] at he
    subst he
    go_enter Tryz.func134, Tryz.ntmps134
    go_wp2_with (refine HV.out.mono ?_; rintro e w2 ⟨rfl, cur2, k2⟩; obtain ⟨m0, -⟩ := (HQ.out.keeps k2 (by simpa using hnp)).one)
    exact bodyPost_ret (v := .tuple #[.int .i64 (X : Int), .int .i64 NE]) (by simp [results, Tryz.results134]) rfl ⟨rfl, cur2, k2⟩

theorem numX_iff (B : List Int) (k M : Nat) : (if numE B k M = 0 then ((varX B k : Nat) : Int) else 0) = ((numX B k M : Nat) : Int) := by
  unfold numX
  split <;> rfl

set_option maxRecDepth 100000 in
theorem number_any (p k M : Nat) (v : Value) (B : List Int) (w : World) (hc : Cur w p v B k) (hM : M < 4611686018427387904) :
    Calls Tryz.prog 94 #[.pointer (some ⟨p, 0, none⟩), .int .i64 (M : Int)] w (CurEnd w p v B (.int .i64 (numX B k M : Int)) (numE B k M) (numK B k M)) := by
  have hp := hc.old.1
  have k0 : Keeps w ((w.alloc (.cells #[.pointer (some ⟨p, 0, none⟩)] 71)).alloc (.cells #[.int .i64 (M : Int)] 3)) [] := ((Keeps.refl w []).alloc _).alloc _
  have b0 := (Blk.new w #[.pointer (some ⟨p, 0, none⟩)] 71).alloc (.cells #[.int .i64 (M : Int)] 3)
  have b1 := Blk.new (w.alloc (.cells #[.pointer (some ⟨p, 0, none⟩)] 71)) #[.int .i64 (M : Int)] 3
  simp only [World.size_alloc] at b1
  have h := readInt_any p k (varK B k) v B ((w.alloc (.cells #[.pointer (some ⟨p, 0, none⟩)] 71)).alloc (.cells #[.int .i64 (M : Int)] 3)) #[.pointer (some ⟨w.heap.size, 0, none⟩), .pointer (some ⟨w.heap.size + 1, 0, none⟩)] ((varX B k : Nat) : Int) (numE B k M) (hc.keeps k0)
    (fun w1 k1 => number1_any p w.heap.size (w.heap.size + 1) k M v B w1 ((hc.keeps k0).keeps k1) (b0.keeps k1 (by simp)) (b1.keeps k1 (by simp)) hM (by omega))
  rw [numX_iff] at h
  have H : Hid (Calls Tryz.prog 133 #[.pointer (some ⟨p, 0, none⟩), .func (.func 134) #[] #[.pointer (some ⟨w.heap.size, 0, none⟩), .pointer (some ⟨w.heap.size + 1, 0, none⟩)]] ((w.alloc (.cells #[.pointer (some ⟨p, 0, none⟩)] 71)).alloc (.cells #[.int .i64 (M : Int)] 3))
    (CurEnd ((w.alloc (.cells #[.pointer (some ⟨p, 0, none⟩)] 71)).alloc (.cells #[.int .i64 (M : Int)] 3)) p v B (.int .i64 (numX B k M : Int)) (numE B k M) (numK B k M))) := h
  clear h hc
  generalize numX B k M = X at *
  generalize numE B k M = E at *
  generalize numK B k M = K' at *
  go_enter Tryz.func94, Tryz.ntmps94
  go_wp2_with (refine H.out.mono ?_; rintro e w1 ⟨rfl, cur1, k1⟩)
  exact bodyPost_ret (v := .tuple #[.int .i64 (X : Int), .int .i64 E]) (by simp [results, Tryz.results94]) rfl ⟨rfl, cur1, (k0.mono (by simp)).trans k1 (fun j hj _ => hj)⟩

set_option maxRecDepth 100000 in
theorem new_any (v : Value) (B : List Int) (w : World) (hv : RdI .u8 w v B) (hn : B.length ≤ 1000000) (hx : ∀ x ∈ B, 0 ≤ x ∧ x ≤ 255) :
    Calls Tryz.prog 49 #[v] w fun e w' => ∃ p v', e = .returned (.pointer (some ⟨p, 0, none⟩)) ∧ w.heap.size ≤ p ∧ Cur w' p v' B 0 ∧ Keeps w w' [] := by
  have HC := Lib.hid (cloneb_any v B w hv hn)
  obtain ⟨ad, n, c, rfl, -, -⟩ := hv.form
  clear hv
  go_enter Tryz.func49, Tryz.ntmps49
  go_wp2_with (refine HC.out.mono ?_; rintro e w1 ⟨v1, rfl, own1, k1⟩; obtain ⟨a1, c1, rfl⟩ := own_form own1)
  go_ret
  have hs := k1.size
  refine ⟨_, _, rfl, hs, ⟨Blk.new w1 _ _, (own_reads own1).keeps ((Keeps.refl w1 []).alloc _), Nat.zero_le _, hn, ?_, hx⟩, k1.alloc _⟩
  rintro a n' c' he h0 hab
  cases he
  have := (own1.lt _ rfl).2
  omega
end

section
set_option linter.unusedVariables false
set_option linter.unusedSimpArgs false
set_option linter.unusedSectionVars false
open Go.RowKit

/-- Two results, both in blocks. -/
theorem res_cell_cell {fn : Func} {p q : Tmp} {T U : TypeId} (h : fn.results = #[.cell p T, .cell q U]) {tmps : Array Value} {P : Program} {w : World} {a b : Addr} {v u : Value} (ht : tmps.getD p undef = .pointer (some a)) (hu : tmps.getD q undef = .pointer (some b)) (hl : (loadVar T a).run P w = .ok v w) (hm : (loadVar U b).run P w = .ok u w) :
    (results fn tmps).run P w = .ok (.tuple #[v, u]) w := by
  have ht' : tmps[p]?.getD undef = .pointer (some a) := by simpa using ht
  have hu' : tmps[q]?.getD undef = .pointer (some b) := by simpa using hu
  simp [results, h, Sem.run_bind, Result.andThen, ht', hu', asAddr, hl, hm]
theorem load_errno {w : World} {b : Nat} {n : Int} (h : Blk w b #[.int .i64 n] 33) : (loadVar 33 ⟨b, 0, none⟩).run Tryz.prog w = .ok (.int .i64 n) w := by
  obtain ⟨c0, -⟩ := h.one
  go_simp

theorem slice_tail {w0 : World} {v : Value} {B : List Int} (h : RdI .u8 w0 v B) {i : Nat} (hi' : i ≤ B.length) :
    ∃ r, (∀ w, (Instr.slice 22 v (some (.int .i64 (i : Int))) none none).run Tryz.prog w = .ok r w) ∧ RdI .u8 w0 r (B.drop i) := by
  obtain ⟨i0, hi, hz0, hz1, hz2⟩ := info_parts Tryz.infoByte
  obtain ⟨ad, n, c, rfl, hn, hh⟩ := h.form
  have hcap := h.cap
  have run : ∀ w, (Instr.slice 22 (.slice ad n c) (some (.int .i64 (i : Int))) none none).run Tryz.prog w = .ok (.slice (if i < c then ad.map (·.add i) else ad) (n - i) (c - i)) w := by
    intro w
    have a1 : i ≤ n := by omega
    cases ad with
    | none =>
      obtain ⟨rfl, rfl, rfl⟩ := h.nilcap
      obtain rfl : i = 0 := by simp at hi'; omega
      simp [Instr.slice, Instr.sliceBounds, Instr.sliceBound, asIntOf, run_underlying Tryz.underlying22, go_sem, sizeOf, typeInfo, hi, hz1]
    | some a =>
      by_cases hic : i < c
      · have a3 : ¬ c = i := by omega
        simp [Instr.slice, Instr.sliceBounds, Instr.sliceBound, asIntOf, run_underlying Tryz.underlying22, go_sem, sizeOf, typeInfo, hi, hz1, a1, a3, hic]
      · obtain rfl : i = c := by omega
        obtain rfl : i = n := by omega
        simp [Instr.slice, Instr.sliceBounds, Instr.sliceBound, asIntOf, run_underlying Tryz.underlying22, go_sem, sizeOf, typeInfo, hi, hz1]
  refine ⟨_, run, ?_⟩
  by_cases he : n - i = 0
  · rw [he, show B.drop i = [] from List.drop_eq_nil_of_le (by omega)]
    cases ad with
    | none =>
      obtain ⟨rfl, rfl, rfl⟩ := h.nilcap
      have : (0 : Nat) - i = 0 := by omega
      rw [this]
      simp
      exact .nil
    | some a => split <;> exact .zero _ _
  · obtain ⟨b, o, rfl, -, -⟩ := h.addr (by omega)
    rw [if_pos (by omega)]
    have e : Option.map (fun x : Addr => x.add i) (some ⟨b, o, none⟩) = some ⟨b, o + i, none⟩ := by simp [Addr.add]
    rw [e]
    have := h.piece (p := i) (q := n - i) (by omega) (c - i) (by omega)
    rwa [List.take_of_length_le (by simp; omega)] at this

set_option maxRecDepth 100000 in
set_option maxHeartbeats 4000000 in
theorem get_raw (v : Value) (l : List Int) (w : World) (hv : RdI .u8 w v l) (hl : ∀ x ∈ l, 0 ≤ x ∧ x ≤ 255) (hn : l.length ≤ 1000000) (hm : markB l = false) :
    Calls Tryz.prog 24 #[v] w fun e w' => ∃ x, e = .returned (.tuple #[.agg (rawC x), .int .i64 0]) ∧ RdI .u8 w' x l ∧ Fresh w.heap.size x ∧ Keeps w w' [] := by
  have HM := Lib.hid (fun w1 (k : Keeps w w1 []) => marked_any v l w1 (hv.keeps k) hl)
  have HR := Lib.hid (fun w1 (k : Keeps w w1 []) => raw_yes v l w1 (hv.keeps k) hl hn hm)
  rw [hm] at HM
  obtain ⟨A0, n, c, rfl, -, -⟩ := hv.form
  have k0 : Keeps w ((w.alloc (.cells zeroC 32)).alloc (.cells #[.int .i64 0] 33)) [] := ((Keeps.refl w []).alloc _).alloc _
  have bd := (Blk.new w zeroC 32).alloc (.cells #[.int .i64 0] 33)
  have be := Blk.new (w.alloc (.cells zeroC 32)) #[.int .i64 0] 33
  simp only [World.size_alloc] at be
  clear hv hl hm hn
  go_enter_defers Tryz.func24, Tryz.ntmps24
  go_wp2_with (first
    | (go_at_call 31; go_loud (refine (HM.out _ k0).mono ?_; rintro e w1 ⟨rfl, k1⟩; have bd1 := bd.keeps k1 (by simp); have be1 := be.keeps k1 (by simp); have kw1 := k0.then k1))
    | (go_at_call 12; go_loud (refine (HR.out _ kw1).mono ?_; rintro e w2 ⟨x2, rfl, rx, fx, k2⟩; obtain ⟨xa, xm, xc, rfl, -, -⟩ := rx.form; have bd2 := bd1.keeps k2 (by simp); have be2 := be1.keeps k2 (by simp); have kw2 := kw1.then k2))
    | (refine wpList_store_blk rfl 32 _ _ rfl w.heap.size (rawC (.slice xa xm xc)) rfl rfl _ _ bd2 dict_size rfl (by simp [Value.oneCell']) ?_; intro W3 bd3 k3; have be3 := be2.keeps k3 (by simp); obtain ⟨e3, e4⟩ := be3.one))
  have hs := kw1.size
  have l1 := be1.lt
  have kf : Keeps W3 (W3.setCell ⟨w.heap.size + 1, 0, none⟩ (.int .i64 0)) [w.heap.size + 1] := (Keeps.refl _ _).setCell (.inr (by simp)) _
  have bd4 := bd3.keeps kf (by simp)
  have be4 := zone be3 (.int .i64 0)
  have rx4 := (rx.keepsS k3 (fun ad n' c' he h0 hm => by have := fx ad n' c' he; simp at hm; omega)).keepsS kf (fun ad n' c' he h0 hm => by have := fx ad n' c' he; simp at hm; omega)
  refine ⟨.tuple #[.agg (rawC (.slice xa xm xc)), .int .i64 0], res_cell_cell rfl rfl rfl (load_dict bd4 rfl) (load_errno be4), _, rfl, rx4, fx.mono hs, ?_⟩
  exact (kw2.trans k3 (fun j hj hlt => by simp at hj; omega)).trans kf (fun j hj hlt => by simp at hj; omega)

set_option maxRecDepth 100000 in
set_option maxHeartbeats 4000000 in
theorem get_bad (v : Value) (l : List Int) (n : Int) (w : World) (hv : RdI .u8 w v l) (hl : ∀ x ∈ l, 0 ≤ x ∧ x ≤ 255) (hn : l.length ≤ 1000000) (hm : markB l = true)
    (hfull : ∀ W p v', Cur W p v' (l.drop 4) 0 → Calls Tryz.prog 48 #[.pointer (some ⟨p, 0, none⟩)] W fun e w' => e = .panicked [raisedBy n false] ∧ Keeps W w' [p]) :
    Calls Tryz.prog 24 #[v] w fun e w' => e = .returned (.tuple #[.agg zeroC, .int .i64 n]) ∧ Keeps w w' [] := by
  have hmf : ∀ (fn : Fn) (first cap : Array Value) (w : World), (Instr.makeFunc fn first cap).run Tryz.prog w = .ok (.func fn first cap) w := fun _ _ _ _ => rfl
  have HM := Lib.hid (fun w1 (k : Keeps w w1 []) => marked_any v l w1 (hv.keeps k) hl)
  rw [hm] at HM
  have h4 : 4 ≤ l.length := by
    have := congrArg List.length (of_decide_eq_true hm)
    simp at this; omega
  obtain ⟨r, hr0, rr⟩ := slice_tail hv (i := 4) h4
  have hr : ∀ w, (Instr.slice 22 v (some (.int .i64 4)) none none).run Tryz.prog w = .ok r w := hr0
  have HNW := Lib.hid (fun w1 (k : Keeps w w1 []) => new_any r (l.drop 4) w1 (rr.keeps k) (by simp; omega) (fun x hx => hl x (List.mem_of_mem_drop hx)))
  have HF := Lib.hid hfull
  obtain ⟨A0, m, c, rfl, -, -⟩ := hv.form
  have k0 : Keeps w ((w.alloc (.cells zeroC 32)).alloc (.cells #[.int .i64 0] 33)) [] := ((Keeps.refl w []).alloc _).alloc _
  have bd := (Blk.new w zeroC 32).alloc (.cells #[.int .i64 0] 33)
  have be := Blk.new (w.alloc (.cells zeroC 32)) #[.int .i64 0] 33
  simp only [World.size_alloc] at be
  clear hv hl hm hn hfull rr hr0 h4
  go_enter_defers Tryz.func24, Tryz.ntmps24
  go_wp2_with (first
    | (go_at_call 31; go_loud (refine (HM.out _ k0).mono ?_; rintro e w1 ⟨rfl, k1⟩; have bd1 := bd.keeps k1 (by simp); have be1 := be.keeps k1 (by simp); have kw1 := k0.then k1))
    | (go_at_call 49; go_loud (refine (HNW.out _ kw1).mono ?_; rintro e w2 ⟨p, v2, rfl, hp, cur2, k2⟩; have bd2 := bd1.keeps k2 (by simp); have be2 := be1.keeps k2 (by simp); have kw2 := kw1.then k2))
    | (go_at_call 48; go_loud (refine (HF.out _ _ _ cur2).mono ?_; rintro e w3 ⟨rfl, k3⟩)))
  have l1 := be1.lt
  have hs := kw1.size
  have bd3 := bd2.keeps k3 (by simp; omega)
  have be3 := be2.keeps k3 (by simp; omega)
  have kw3 := kw2.trans k3 (fun j hj hlt => by simp at hj; omega)
  refine leaves_cons (f := 47) (args := #[.pointer (some ⟨w.heap.size, 0, none⟩), .pointer (some ⟨w.heap.size + 1, 0, none⟩)]) (by simp) (by simp [go_sem]) ?_
  refine (dget_back _ _ n _ [] _ bd3 be3 (by omega)).mono ?_
  rintro e u' w4 ⟨rfl, rfl, bd4, be4, k4⟩
  exact ⟨.tuple #[.agg zeroC, .int .i64 n], res_cell_cell rfl rfl rfl (load_dict bd4 rfl) (load_errno be4), rfl, kw3.trans k4 (fun j hj hlt => by simp at hj; omega)⟩
end

section
set_option linter.unusedVariables false
set_option linter.unusedSimpArgs false
set_option linter.unusedSectionVars false
open Go.RowKit

set_option maxHeartbeats 1000000 in
theorem sameInts_yes (v1 v2 : Value) (l : List Int) (w : World) (h1 : RdI .i64 w v1 l) (h2 : RdI .i64 w v2 l) (hn : l.length ≤ 1000000) :
    Calls Tryz.prog 34 #[v1, v2] w fun e w' => e = .returned (.bool true) ∧ ∃ m, w' = w.drewN m := by
  obtain ⟨A1, n, c1, rfl, hn1, -⟩ := h1.form
  obtain ⟨A2, n2, c2, rfl, hn2, -⟩ := h2.form
  obtain rfl : n2 = n := by omega
  have H1 := Lib.hid h1
  have H2 := Lib.hid h2
  have HN := Lib.hid hn1
  have hn' : n2 ≤ 1000000 := by omega
  clear h1 h2 hn1 hn2 hn
  go_enter Tryz.func34, Tryz.ntmps34
  go_wp2_with fail
  go_loopw [5] (fun i wr => ∃ k nd : Nat, k ≤ n2 ∧ i = .int .i64 k ∧ wr = w.drewN nd) (fun i _ => n2 - (intOf i).toNat)
  case atStart => exact ⟨0, 0, Nat.zero_le _, rfl, rfl⟩
  case round =>
    obtain ⟨k, nd, hk, rfl, rfl⟩ := hrel
    by_cases hlt : k < n2
    · obtain ⟨x, hx⟩ : ∃ x, l[k]? = some x := ⟨_, List.getElem?_eq_getElem (by have := HN.out; omega)⟩
      obtain ⟨b, o, rfl, hb, hc⟩ := H1.out.at hx
      obtain ⟨b2, o2, rfl, hb2, hc2⟩ := H2.out.at hx
      have hcap := H1.out.cap
      have hcap2 := H2.out.cap
      have hkn : (k : Int) < (n2 : Int) := by omega
      have hk0 : (0 : Int) ≤ (k : Int) := Int.natCast_nonneg _
      clear hx
      go_wp2_with fail
      go_quiet (fail)
      go_wp2_with fail
      go_roundw
      case rel => exact ⟨k + 1, nd + nq, by omega, by go_num, rfl⟩
      case measure => simp [intOf]; omega
    · have : k = n2 := by omega
      subst this
      go_wp2_with fail
      go_ret
      exact ⟨rfl, _, rfl⟩


set_option maxRecDepth 100000 in
set_option maxHeartbeats 2000000 in
theorem tsame_yes (g : Int) (v1 v2 : Value) (l : List Int) (w : World) (h1 : RdI .i64 w v1 l) (h2 : RdI .i64 w v2 l) (hn : l.length ≤ 1000000) :
    Calls Tryz.prog 35 #[.agg #[.int .i64 g, v1], .agg #[.int .i64 g, v2]] w fun e w' => e = .returned (.bool true) ∧ Keeps w w' [] := by
  obtain ⟨A1, n, c1, rfl, hn1, -⟩ := h1.form
  obtain ⟨A2, n2, c2, rfl, hn2, -⟩ := h2.form
  obtain rfl : n2 = n := by omega
  have H1 := Lib.hid h1
  have H2 := Lib.hid h2
  have HN := Lib.hid hn1
  have hn' : n2 ≤ 1000000 := by omega
  have k0 : Keeps w ((w.alloc (.cells #[.int .i64 g, .slice A1 n2 c1] 27)).alloc (.cells #[.int .i64 g, .slice A2 n2 c2] 27)) [] := ((Keeps.refl w []).alloc _).alloc _
  have b1 := (Blk.new w #[.int .i64 g, .slice A1 n2 c1] 27).alloc (.cells #[.int .i64 g, .slice A2 n2 c2] 27)
  have b2 := Blk.new (w.alloc (.cells #[.int .i64 g, .slice A1 n2 c1] 27)) #[.int .i64 g, .slice A2 n2 c2] 27
  simp only [World.size_alloc] at b2
  clear h1 h2 hn1 hn2 hn
  go_enter Tryz.func35, Tryz.ntmps35
  go_wp2_with fail
  generalize ((w.alloc (.cells #[.int .i64 g, .slice A1 n2 c1] 27)).alloc (.cells #[.int .i64 g, .slice A2 n2 c2] 27)) = w0 at *
  obtain ⟨p1, p2⟩ := (⟨b1.cell 1, b2.cell 1⟩ : _ ∧ _)
  simp at p1 p2
  go_loopw [5] (fun i wr => ∃ k nd : Nat, k ≤ n2 ∧ i = .int .i64 k ∧ wr = w0.drewN nd) (fun i _ => n2 - (intOf i).toNat)
  case atStart => exact ⟨0, 0, Nat.zero_le _, rfl, rfl⟩
  case round =>
    obtain ⟨k, nd, hk, rfl, rfl⟩ := hrel
    by_cases hlt : k < n2
    · obtain ⟨x, hx⟩ : ∃ x, l[k]? = some x := ⟨_, List.getElem?_eq_getElem (by have := HN.out; omega)⟩
      obtain ⟨b, o, rfl, hb, hc⟩ := H1.out.at hx
      obtain ⟨bb, oo, rfl, hbb, hcc⟩ := H2.out.at hx
      have hcap := H1.out.cap
      have hcap2 := H2.out.cap
      have hkn : (k : Int) < (n2 : Int) := by omega
      have hk0 : (0 : Int) ≤ (k : Int) := Int.natCast_nonneg _
      have hc' := (k0.cell (p := ⟨b, o + k, none⟩) hb (by simp)).trans hc
      have hcc' := (k0.cell (p := ⟨bb, oo + k, none⟩) hbb (by simp)).trans hcc
      clear hx hc hcc b1 b2
      go_wp2_with fail
      go_quiet (fail)
      go_wp2_with fail
      go_roundw
      case rel => exact ⟨k + 1, nd + nq, by omega, by go_num, rfl⟩
      case measure => simp [intOf]; omega
    · have : k = n2 := by omega
      subst this
      clear b1 b2
      go_wp2_with fail
      go_ret
      exact ⟨rfl, k0.drewN _⟩
end

section
set_option linter.unusedVariables false
set_option linter.unusedSimpArgs false
open Go.RowKit

theorem eq_three (a b c a' b' c' : Int) (w : World) : (Op.equalIn 10000 28 (.agg #[.int .i64 a, .int .i64 b, .int .i64 c]) (.agg #[.int .i64 a', .int .i64 b', .int .i64 c'])).run Tryz.prog w = .ok (a == a' && (b == b' && c == c')) w := by
  obtain ⟨i, hi, -⟩ := info_parts Tryz.infoInt
  rw [show (10000 : Nat) = 9999 + 1 from rfl, run_equalIn_array w 9999 _ _ Tryz.underlying28 hi]
  have hc : Tryz.prog.cellsOf 3 = 1 := by kernel_rfl
  have hp : ∀ (xs : Array Value) (j : Nat) (v : Value), xs[j]? = some v → (part 3 xs j).run Tryz.prog w = .ok v w := fun xs j v h => by
    have ha : (isAgg 3).run Tryz.prog w = .ok false w := by kernel_rfl
    simp [part, Sem.run_bind, ha, h]
  have he : ∀ x y : Int, (Op.equalIn 9999 3 (.int .i64 x) (.int .i64 y)).run Tryz.prog w = .ok (x == y) w := fun x y => by
    rw [show (9999 : Nat) = 9998 + 1 from rfl, Op.equalIn]
    simp [go_sem]
  rw [show List.range 3 = [0, 1, 2] from rfl, hc]
  have h0 := hp #[Value.int .i64 a, .int .i64 b, .int .i64 c] (0 * 1) (.int .i64 a) rfl
  have h1 := hp #[Value.int .i64 a, .int .i64 b, .int .i64 c] (1 * 1) (.int .i64 b) rfl
  have h2 := hp #[Value.int .i64 a, .int .i64 b, .int .i64 c] (2 * 1) (.int .i64 c) rfl
  have h0' := hp #[Value.int .i64 a', .int .i64 b', .int .i64 c'] (0 * 1) (.int .i64 a') rfl
  have h1' := hp #[Value.int .i64 a', .int .i64 b', .int .i64 c'] (1 * 1) (.int .i64 b') rfl
  have h2' := hp #[Value.int .i64 a', .int .i64 b', .int .i64 c'] (2 * 1) (.int .i64 c') rfl
  have heA := he a a'
  have heB := he b b'
  have heC := he c c'
  clear he hp
  generalize (a == a') = A at *
  generalize (b == b') = B at *
  generalize (c == c') = C at *
  simp only [Nat.zero_mul, Nat.mul_one] at h0 h1 h2 h0' h1' h2'
  cases A <;> cases B <;> cases C <;> simp [Op.eqItems, Sem.run_bind, h0, h1, h2, h0', h1', h2', heA, heB, heC]
end

section
set_option linter.unusedVariables false
set_option linter.unusedSimpArgs false
set_option linter.unusedSectionVars false
open Go.RowKit

theorem ctx_cells {w : World} {p : Nat} {v0 v1 v2 v3 v4 v5 v6 v7 v8 v9 : Value} {T : TypeId} (h : Blk w p #[v0, v1, v2, v3, v4, v5, v6, v7, v8, v9] T) :
    w.cell? ⟨p, 1, none⟩ = some v1 ∧ w.cell? ⟨p, 2, none⟩ = some v2 ∧ w.cell? ⟨p, 3, none⟩ = some v3 ∧ w.cell? ⟨p, 4, none⟩ = some v4 ∧ w.cell? ⟨p, 5, none⟩ = some v5 ∧ w.cell? ⟨p, 6, none⟩ = some v6 ∧ w.cell? ⟨p, 7, none⟩ = some v7 ∧ w.cell? ⟨p, 8, none⟩ = some v8 ∧ w.cell? ⟨p, 9, none⟩ = some v9 :=
  ⟨h.cell 1, h.cell 2, h.cell 3, h.cell 4, h.cell 5, h.cell 6, h.cell 7, h.cell 8, h.cell 9⟩
theorem dict_cell11 {w : World} {p : Nat} {v0 v1 v2 v3 v4 v5 v6 v7 v8 v9 va vb : Value} {T : TypeId} (h : Blk w p #[v0, v1, v2, v3, v4, v5, v6, v7, v8, v9, va, vb] T) : w.cell? ⟨p, 11, none⟩ = some vb := h.cell 11

set_option maxRecDepth 100000 in
set_option maxHeartbeats 8000000 in
theorem dsame_yes (id g1 g2 g3 a b c : Int) (t t' n1 n1' n2 n2' n3 n3' x x' : Value) (T L1 L2 L3 X : List Int) (w : World)
    (ht : RdI .i64 w t T) (ht' : RdI .i64 w t' T) (h1 : RdI .i64 w n1 L1) (h1' : RdI .i64 w n1' L1) (h2 : RdI .i64 w n2 L2) (h2' : RdI .i64 w n2' L2) (h3 : RdI .i64 w n3 L3) (h3' : RdI .i64 w n3' L3) (hx : RdI .u8 w x X) (hx' : RdI .u8 w x' X)
    (hT : T.length ≤ 1000000) (hL1 : L1.length ≤ 1000000) (hL2 : L2.length ≤ 1000000) (hL3 : L3.length ≤ 1000000) :
    Calls Tryz.prog 15 #[.agg (dictC id t g1 n1 g2 n2 g3 n3 a b c x), .agg (dictC id t' g1 n1' g2 n2' g3 n3' a b c x')] w fun e w' => e = .returned (.bool true) ∧ Keeps w w' [] := by
  have HSI := Lib.hid (fun w1 (k : Keeps w w1 []) => sameInts_yes t t' T w1 (ht.keeps k) (ht'.keeps k) hT)
  have HT1 := Lib.hid (fun w1 (k : Keeps w w1 []) => tsame_yes g1 n1 n1' L1 w1 (h1.keeps k) (h1'.keeps k) hL1)
  have HT2 := Lib.hid (fun w1 (k : Keeps w w1 []) => tsame_yes g2 n2 n2' L2 w1 (h2.keeps k) (h2'.keeps k) hL2)
  have HT3 := Lib.hid (fun w1 (k : Keeps w w1 []) => tsame_yes g3 n3 n3' L3 w1 (h3.keeps k) (h3'.keeps k) hL3)
  have HS1 := Lib.hid (fun w1 (k : Keeps w w1 []) => str_of (P := Tryz.prog) (hx.keeps k) Tryz.underlying22 Tryz.underlying5 Tryz.underlying9)
  have HS2 := Lib.hid (fun w1 (k : Keeps w w1 []) => str_of (P := Tryz.prog) (hx'.keeps k) Tryz.underlying22 Tryz.underlying5 Tryz.underlying9)
  generalize strOfNums X = SX at *
  obtain ⟨pa, pm, pc, rfl, -, -⟩ := ht.form
  obtain ⟨qa, qm, qc, rfl, -, -⟩ := ht'.form
  obtain ⟨p1a, p1m, p1c, rfl, -, -⟩ := h1.form
  obtain ⟨q1a, q1m, q1c, rfl, -, -⟩ := h1'.form
  obtain ⟨p2a, p2m, p2c, rfl, -, -⟩ := h2.form
  obtain ⟨q2a, q2m, q2c, rfl, -, -⟩ := h2'.form
  obtain ⟨p3a, p3m, p3c, rfl, -, -⟩ := h3.form
  obtain ⟨q3a, q3m, q3c, rfl, -, -⟩ := h3'.form
  obtain ⟨pxa, pxm, pxc, rfl, -, -⟩ := hx.form
  obtain ⟨qxa, qxm, qxc, rfl, -, -⟩ := hx'.form
  clear ht ht' h1 h1' h2 h2' h3 h3' hx hx' hT hL1 hL2 hL3
  have h3q := fun w1 => eq_three a b c a b c w1
  simp only [BEq.rfl, Bool.and_true] at h3q
  go_enter Tryz.func15, Tryz.ntmps15
  go_wp2_with fail
  go_region
  · have z0 := (((Blk.new w (dictC id (.slice pa pm pc) g1 (.slice p1a p1m p1c) g2 (.slice p2a p2m p2c) g3 (.slice p3a p3m p3c) a b c (.slice pxa pxm pxc)) 32).alloc (.cells (dictC id (.slice qa qm qc) g1 (.slice q1a q1m q1c) g2 (.slice q2a q2m q2c) g3 (.slice q3a q3m q3c) a b c (.slice qxa qxm qxc)) 32)).alloc (.cells #[.slice pa pm pc, .int .i64 g1, .slice p1a p1m p1c, .int .i64 g2, .slice p2a p2m p2c, .int .i64 g3, .slice p3a p3m p3c, .int .i64 a, .int .i64 b, .int .i64 c] 30)).alloc (.cells #[.slice qa qm qc, .int .i64 g1, .slice q1a q1m q1c, .int .i64 g2, .slice q2a q2m q2c, .int .i64 g3, .slice q3a q3m q3c, .int .i64 a, .int .i64 b, .int .i64 c] 30)
    have z1 := ((Blk.new (w.alloc (.cells (dictC id (.slice pa pm pc) g1 (.slice p1a p1m p1c) g2 (.slice p2a p2m p2c) g3 (.slice p3a p3m p3c) a b c (.slice pxa pxm pxc)) 32)) (dictC id (.slice qa qm qc) g1 (.slice q1a q1m q1c) g2 (.slice q2a q2m q2c) g3 (.slice q3a q3m q3c) a b c (.slice qxa qxm qxc)) 32).alloc (.cells #[.slice pa pm pc, .int .i64 g1, .slice p1a p1m p1c, .int .i64 g2, .slice p2a p2m p2c, .int .i64 g3, .slice p3a p3m p3c, .int .i64 a, .int .i64 b, .int .i64 c] 30)).alloc (.cells #[.slice qa qm qc, .int .i64 g1, .slice q1a q1m q1c, .int .i64 g2, .slice q2a q2m q2c, .int .i64 g3, .slice q3a q3m q3c, .int .i64 a, .int .i64 b, .int .i64 c] 30)
    have z2 := (Blk.new ((w.alloc (.cells (dictC id (.slice pa pm pc) g1 (.slice p1a p1m p1c) g2 (.slice p2a p2m p2c) g3 (.slice p3a p3m p3c) a b c (.slice pxa pxm pxc)) 32)).alloc (.cells (dictC id (.slice qa qm qc) g1 (.slice q1a q1m q1c) g2 (.slice q2a q2m q2c) g3 (.slice q3a q3m q3c) a b c (.slice qxa qxm qxc)) 32)) #[.slice pa pm pc, .int .i64 g1, .slice p1a p1m p1c, .int .i64 g2, .slice p2a p2m p2c, .int .i64 g3, .slice p3a p3m p3c, .int .i64 a, .int .i64 b, .int .i64 c] 30).alloc (.cells #[.slice qa qm qc, .int .i64 g1, .slice q1a q1m q1c, .int .i64 g2, .slice q2a q2m q2c, .int .i64 g3, .slice q3a q3m q3c, .int .i64 a, .int .i64 b, .int .i64 c] 30)
    have z3 := Blk.new (((w.alloc (.cells (dictC id (.slice pa pm pc) g1 (.slice p1a p1m p1c) g2 (.slice p2a p2m p2c) g3 (.slice p3a p3m p3c) a b c (.slice pxa pxm pxc)) 32)).alloc (.cells (dictC id (.slice qa qm qc) g1 (.slice q1a q1m q1c) g2 (.slice q2a q2m q2c) g3 (.slice q3a q3m q3c) a b c (.slice qxa qxm qxc)) 32)).alloc (.cells #[.slice pa pm pc, .int .i64 g1, .slice p1a p1m p1c, .int .i64 g2, .slice p2a p2m p2c, .int .i64 g3, .slice p3a p3m p3c, .int .i64 a, .int .i64 b, .int .i64 c] 30)) #[.slice qa qm qc, .int .i64 g1, .slice q1a q1m q1c, .int .i64 g2, .slice q2a q2m q2c, .int .i64 g3, .slice q3a q3m q3c, .int .i64 a, .int .i64 b, .int .i64 c] 30
    have zk : Keeps w ((((w.alloc (.cells (dictC id (.slice pa pm pc) g1 (.slice p1a p1m p1c) g2 (.slice p2a p2m p2c) g3 (.slice p3a p3m p3c) a b c (.slice pxa pxm pxc)) 32)).alloc (.cells (dictC id (.slice qa qm qc) g1 (.slice q1a q1m q1c) g2 (.slice q2a q2m q2c) g3 (.slice q3a q3m q3c) a b c (.slice qxa qxm qxc)) 32)).alloc (.cells #[.slice pa pm pc, .int .i64 g1, .slice p1a p1m p1c, .int .i64 g2, .slice p2a p2m p2c, .int .i64 g3, .slice p3a p3m p3c, .int .i64 a, .int .i64 b, .int .i64 c] 30)).alloc (.cells #[.slice qa qm qc, .int .i64 g1, .slice q1a q1m q1c, .int .i64 g2, .slice q2a q2m q2c, .int .i64 g3, .slice q3a q3m q3c, .int .i64 a, .int .i64 b, .int .i64 c] 30)) [] := ((((Keeps.refl w []).alloc _).alloc _).alloc _).alloc _
    simp only [World.size_alloc] at z1 z2 z3
    go_wp2_with fail
    refine (HSI.out _ zk.drew).mono ?_
    rintro e w1 ⟨rfl, m1, rfl⟩
    have zc := (z2.drew).drewN m1
    have zd := (z3.drew).drewN m1
    replace z0 := (z0.drew).drewN m1
    replace z1 := (z1.drew).drewN m1
    replace zk := (zk.drew).drewN m1
    clear z2 z3 HSI
    generalize World.drewN _ m1 = w1 at *
    obtain ⟨a1, a2, a3, a4, a5, a6, a7, a8, a9⟩ := ctx_cells zc
    obtain ⟨b1, b2, b3, b4, b5, b6, b7, b8, b9⟩ := ctx_cells zd
    have d1 := dict_cell11 z0
    have d2 := dict_cell11 z1
    go_wp2_with fail
    refine (HT1.out _ zk).mono ?_
    rintro e w2 ⟨rfl, kk⟩
    replace zc := zc.keeps kk (by simp)
    replace zd := zd.keeps kk (by simp)
    replace z0 := z0.keeps kk (by simp)
    replace z1 := z1.keeps kk (by simp)
    replace zk := zk.then kk
    clear kk a1 a2 a3 a4 a5 a6 a7 a8 a9 b1 b2 b3 b4 b5 b6 b7 b8 b9 d1 d2 HT1
    obtain ⟨a1, a2, a3, a4, a5, a6, a7, a8, a9⟩ := ctx_cells zc
    obtain ⟨b1, b2, b3, b4, b5, b6, b7, b8, b9⟩ := ctx_cells zd
    have d1 := dict_cell11 z0
    have d2 := dict_cell11 z1
    go_wp2_with fail
    refine (HT2.out _ zk).mono ?_
    rintro e w3 ⟨rfl, kk⟩
    replace zc := zc.keeps kk (by simp)
    replace zd := zd.keeps kk (by simp)
    replace z0 := z0.keeps kk (by simp)
    replace z1 := z1.keeps kk (by simp)
    replace zk := zk.then kk
    clear kk a1 a2 a3 a4 a5 a6 a7 a8 a9 b1 b2 b3 b4 b5 b6 b7 b8 b9 d1 d2 HT2
    obtain ⟨a1, a2, a3, a4, a5, a6, a7, a8, a9⟩ := ctx_cells zc
    obtain ⟨b1, b2, b3, b4, b5, b6, b7, b8, b9⟩ := ctx_cells zd
    have d1 := dict_cell11 z0
    have d2 := dict_cell11 z1
    go_wp2_with fail
    refine (HT3.out _ zk).mono ?_
    rintro e w4 ⟨rfl, kk⟩
    replace zc := zc.keeps kk (by simp)
    replace zd := zd.keeps kk (by simp)
    replace z0 := z0.keeps kk (by simp)
    replace z1 := z1.keeps kk (by simp)
    replace zk := zk.then kk
    clear kk a1 a2 a3 a4 a5 a6 a7 a8 a9 b1 b2 b3 b4 b5 b6 b7 b8 b9 d1 d2 HT3
    obtain ⟨a1, a2, a3, a4, a5, a6, a7, a8, a9⟩ := ctx_cells zc
    obtain ⟨b1, b2, b3, b4, b5, b6, b7, b8, b9⟩ := ctx_cells zd
    have d1 := dict_cell11 z0
    have d2 := dict_cell11 z1
    have s1 := HS1.out _ zk
    have s2 := HS2.out _ zk
    go_wp2_with fail
    go_ret
    exact ⟨rfl, zk⟩
  · have z0 := (((Blk.new w (dictC id (.slice pa pm pc) g1 (.slice p1a p1m p1c) g2 (.slice p2a p2m p2c) g3 (.slice p3a p3m p3c) a b c (.slice pxa pxm pxc)) 32).alloc (.cells (dictC id (.slice qa qm qc) g1 (.slice q1a q1m q1c) g2 (.slice q2a q2m q2c) g3 (.slice q3a q3m q3c) a b c (.slice qxa qxm qxc)) 32)).alloc (.cells #[.slice qa qm qc, .int .i64 g1, .slice q1a q1m q1c, .int .i64 g2, .slice q2a q2m q2c, .int .i64 g3, .slice q3a q3m q3c, .int .i64 a, .int .i64 b, .int .i64 c] 30)).alloc (.cells #[.slice pa pm pc, .int .i64 g1, .slice p1a p1m p1c, .int .i64 g2, .slice p2a p2m p2c, .int .i64 g3, .slice p3a p3m p3c, .int .i64 a, .int .i64 b, .int .i64 c] 30)
    have z1 := ((Blk.new (w.alloc (.cells (dictC id (.slice pa pm pc) g1 (.slice p1a p1m p1c) g2 (.slice p2a p2m p2c) g3 (.slice p3a p3m p3c) a b c (.slice pxa pxm pxc)) 32)) (dictC id (.slice qa qm qc) g1 (.slice q1a q1m q1c) g2 (.slice q2a q2m q2c) g3 (.slice q3a q3m q3c) a b c (.slice qxa qxm qxc)) 32).alloc (.cells #[.slice qa qm qc, .int .i64 g1, .slice q1a q1m q1c, .int .i64 g2, .slice q2a q2m q2c, .int .i64 g3, .slice q3a q3m q3c, .int .i64 a, .int .i64 b, .int .i64 c] 30)).alloc (.cells #[.slice pa pm pc, .int .i64 g1, .slice p1a p1m p1c, .int .i64 g2, .slice p2a p2m p2c, .int .i64 g3, .slice p3a p3m p3c, .int .i64 a, .int .i64 b, .int .i64 c] 30)
    have z2 := (Blk.new ((w.alloc (.cells (dictC id (.slice pa pm pc) g1 (.slice p1a p1m p1c) g2 (.slice p2a p2m p2c) g3 (.slice p3a p3m p3c) a b c (.slice pxa pxm pxc)) 32)).alloc (.cells (dictC id (.slice qa qm qc) g1 (.slice q1a q1m q1c) g2 (.slice q2a q2m q2c) g3 (.slice q3a q3m q3c) a b c (.slice qxa qxm qxc)) 32)) #[.slice qa qm qc, .int .i64 g1, .slice q1a q1m q1c, .int .i64 g2, .slice q2a q2m q2c, .int .i64 g3, .slice q3a q3m q3c, .int .i64 a, .int .i64 b, .int .i64 c] 30).alloc (.cells #[.slice pa pm pc, .int .i64 g1, .slice p1a p1m p1c, .int .i64 g2, .slice p2a p2m p2c, .int .i64 g3, .slice p3a p3m p3c, .int .i64 a, .int .i64 b, .int .i64 c] 30)
    have z3 := Blk.new (((w.alloc (.cells (dictC id (.slice pa pm pc) g1 (.slice p1a p1m p1c) g2 (.slice p2a p2m p2c) g3 (.slice p3a p3m p3c) a b c (.slice pxa pxm pxc)) 32)).alloc (.cells (dictC id (.slice qa qm qc) g1 (.slice q1a q1m q1c) g2 (.slice q2a q2m q2c) g3 (.slice q3a q3m q3c) a b c (.slice qxa qxm qxc)) 32)).alloc (.cells #[.slice qa qm qc, .int .i64 g1, .slice q1a q1m q1c, .int .i64 g2, .slice q2a q2m q2c, .int .i64 g3, .slice q3a q3m q3c, .int .i64 a, .int .i64 b, .int .i64 c] 30)) #[.slice pa pm pc, .int .i64 g1, .slice p1a p1m p1c, .int .i64 g2, .slice p2a p2m p2c, .int .i64 g3, .slice p3a p3m p3c, .int .i64 a, .int .i64 b, .int .i64 c] 30
    have zk : Keeps w ((((w.alloc (.cells (dictC id (.slice pa pm pc) g1 (.slice p1a p1m p1c) g2 (.slice p2a p2m p2c) g3 (.slice p3a p3m p3c) a b c (.slice pxa pxm pxc)) 32)).alloc (.cells (dictC id (.slice qa qm qc) g1 (.slice q1a q1m q1c) g2 (.slice q2a q2m q2c) g3 (.slice q3a q3m q3c) a b c (.slice qxa qxm qxc)) 32)).alloc (.cells #[.slice qa qm qc, .int .i64 g1, .slice q1a q1m q1c, .int .i64 g2, .slice q2a q2m q2c, .int .i64 g3, .slice q3a q3m q3c, .int .i64 a, .int .i64 b, .int .i64 c] 30)).alloc (.cells #[.slice pa pm pc, .int .i64 g1, .slice p1a p1m p1c, .int .i64 g2, .slice p2a p2m p2c, .int .i64 g3, .slice p3a p3m p3c, .int .i64 a, .int .i64 b, .int .i64 c] 30)) [] := ((((Keeps.refl w []).alloc _).alloc _).alloc _).alloc _
    simp only [World.size_alloc] at z1 z2 z3
    go_wp2_with fail
    refine (HSI.out _ zk.drew).mono ?_
    rintro e w1 ⟨rfl, m1, rfl⟩
    have zc := (z3.drew).drewN m1
    have zd := (z2.drew).drewN m1
    replace z0 := (z0.drew).drewN m1
    replace z1 := (z1.drew).drewN m1
    replace zk := (zk.drew).drewN m1
    clear z2 z3 HSI
    generalize World.drewN _ m1 = w1 at *
    obtain ⟨a1, a2, a3, a4, a5, a6, a7, a8, a9⟩ := ctx_cells zc
    obtain ⟨b1, b2, b3, b4, b5, b6, b7, b8, b9⟩ := ctx_cells zd
    have d1 := dict_cell11 z0
    have d2 := dict_cell11 z1
    go_wp2_with fail
    refine (HT1.out _ zk).mono ?_
    rintro e w2 ⟨rfl, kk⟩
    replace zc := zc.keeps kk (by simp)
    replace zd := zd.keeps kk (by simp)
    replace z0 := z0.keeps kk (by simp)
    replace z1 := z1.keeps kk (by simp)
    replace zk := zk.then kk
    clear kk a1 a2 a3 a4 a5 a6 a7 a8 a9 b1 b2 b3 b4 b5 b6 b7 b8 b9 d1 d2 HT1
    obtain ⟨a1, a2, a3, a4, a5, a6, a7, a8, a9⟩ := ctx_cells zc
    obtain ⟨b1, b2, b3, b4, b5, b6, b7, b8, b9⟩ := ctx_cells zd
    have d1 := dict_cell11 z0
    have d2 := dict_cell11 z1
    go_wp2_with fail
    refine (HT2.out _ zk).mono ?_
    rintro e w3 ⟨rfl, kk⟩
    replace zc := zc.keeps kk (by simp)
    replace zd := zd.keeps kk (by simp)
    replace z0 := z0.keeps kk (by simp)
    replace z1 := z1.keeps kk (by simp)
    replace zk := zk.then kk
    clear kk a1 a2 a3 a4 a5 a6 a7 a8 a9 b1 b2 b3 b4 b5 b6 b7 b8 b9 d1 d2 HT2
    obtain ⟨a1, a2, a3, a4, a5, a6, a7, a8, a9⟩ := ctx_cells zc
    obtain ⟨b1, b2, b3, b4, b5, b6, b7, b8, b9⟩ := ctx_cells zd
    have d1 := dict_cell11 z0
    have d2 := dict_cell11 z1
    go_wp2_with fail
    refine (HT3.out _ zk).mono ?_
    rintro e w4 ⟨rfl, kk⟩
    replace zc := zc.keeps kk (by simp)
    replace zd := zd.keeps kk (by simp)
    replace z0 := z0.keeps kk (by simp)
    replace z1 := z1.keeps kk (by simp)
    replace zk := zk.then kk
    clear kk a1 a2 a3 a4 a5 a6 a7 a8 a9 b1 b2 b3 b4 b5 b6 b7 b8 b9 d1 d2 HT3
    obtain ⟨a1, a2, a3, a4, a5, a6, a7, a8, a9⟩ := ctx_cells zc
    obtain ⟨b1, b2, b3, b4, b5, b6, b7, b8, b9⟩ := ctx_cells zd
    have d1 := dict_cell11 z0
    have d2 := dict_cell11 z1
    have s1 := HS1.out _ zk
    have s2 := HS2.out _ zk
    go_wp2_with fail
    go_ret
    exact ⟨rfl, zk⟩
end

section
set_option linter.unusedVariables false
set_option linter.unusedSimpArgs false
set_option linter.unusedSectionVars false
open Go.RowKit
end

end Go.Proofs.YtcmagccfagijlaaGreat
