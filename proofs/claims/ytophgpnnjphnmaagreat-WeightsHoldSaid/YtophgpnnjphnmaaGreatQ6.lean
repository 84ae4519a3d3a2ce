/-
  Walks over package desc: a reader of bits that keeps the first error: must, take, cut, number.
  append of a make, onto a slice of the call's own: so many zeros more. (No program in sight.)
  The greatest number of a list; whether a list holds a positive one. No program is in sight here.
  Walks over package canon: validity of a tree, its greatest length.
  Walks over package canon: the deferred function, MaxLength.
  The weights of a tree; the tree of weights. No program is in sight here.
  Walks over package weights: is, must, the deferred function, of.
  Walks over package desc: noughts.
  Structs of many cells: a whole one is stored into a block, or loaded from it. No program is in sight here.
  Steps of a region that draws its order: a slice literal without elements; append of a slice of numbers, nil or not, to a slice of the call's own. No program is in sight here.
-/
import Derived.Test.YtophgpnnjphnmaaGreatQ3
import Derived.Test.YtophgpnnjphnmaaGreatQ1
import Derived.Test.YtophgpnnjphnmaaGreatQ4
import Derived.Test.YtophgpnnjphnmaaGreatQ5
import Derived.Test.YtophgpnnjphnmaaGreatQ2
import Derived.Lib.AppendZerosOnto
import Derived.Lib.Slices
import Derived.WalkKit
import Derived.IntWalk
import Derived.Test.YtophgpnnjphnmaaGreatRows
import Derived.Defers
import Derived.Recover
import Derived.Laws.Rows
import Derived.Laws.Tables
import Derived.Deep.MidRow
import Derived.Deep.RegionHeld3
import Derived.Deep.RegionLaw
namespace Go.Proofs.YtophgpnnjphnmaaGreat
section
set_option linter.unusedVariables false
set_option linter.unusedSimpArgs false
set_option linter.unusedSectionVars false
open Go.RowKit

theorem BitR.keepsC {w w' : World} {R g : Nat} {TF : TypeId} {B : List Int} {a b : Nat} {S : List Nat} (h : BitR w R g TF B a b) (k : Keeps w w' S) (h1 : R ∉ S) (h2 : 0 < B.length → g ∉ S) : BitR w' R g TF B a b := by
  obtain ⟨bs, c1, c2, c3⟩ := h.cells
  refine ⟨⟨bs, c1.keeps k h1, c2.keepsS k (fun ad n cp e h0 hm => ?_), c3⟩, h.ne, h.len, h.bytes, h.hab, h.hb⟩
  subst e
  have hl := c2.len
  exact h2 (by omega) (c3 _ _ _ rfl ▸ hm)
theorem BitR.lt {w : World} {R g : Nat} {TF : TypeId} {B : List Int} {a b : Nat} (h : BitR w R g TF B a b) : R < w.heap.size ∧ (0 < B.length → g < w.heap.size) := by
  obtain ⟨bs, c1, c2, c3⟩ := h.cells
  refine ⟨c1.lt, fun h0 => ?_⟩
  obtain ⟨A0, n, cp, rfl, hn, -⟩ := c2.form
  obtain ⟨b', o', e, hb, -⟩ := c2.addr (by omega)
  subst e
  rw [← c3 _ _ _ rfl]
  exact hb

/-- A reader at block Q: its bits at block R, whose bytes B lie in block g; p bits are read, e is the error. -/
structure DR (w : World) (Q R g : Nat) (B : List Int) (p : Nat) (e : Int) : Prop where
  blk : Blk w Q #[.pointer (some ⟨R, 0, none⟩), .int .i64 e] 139
  rd : BitR w R g 165 B p (8 * B.length)
  qr : Q ≠ R
  qg : 0 < B.length → Q ≠ g
theorem DR.keeps {w w' : World} {Q R g p : Nat} {B : List Int} {e : Int} {S : List Nat} (h : DR w Q R g B p e) (k : Keeps w w' S) (h0 : Q ∉ S) (h1 : R ∉ S) (h2 : 0 < B.length → g ∉ S) : DR w' Q R g B p e :=
  ⟨h.blk.keeps k h0, h.rd.keepsC k h1 h2, h.qr, h.qg⟩
theorem DR.keep {w w' : World} {Q R g p : Nat} {B : List Int} {e : Int} (h : DR w Q R g B p e) (k : Keeps w w' []) : DR w' Q R g B p e := h.keeps k (by simp) (by simp) (by simp)
theorem DR.lt {w : World} {Q R g p : Nat} {B : List Int} {e : Int} (h : DR w Q R g B p e) : Q < w.heap.size ∧ R < w.heap.size ∧ (0 < B.length → g < w.heap.size) := ⟨h.blk.lt, h.rd.lt.1, h.rd.lt.2⟩
theorem DR.old {w w' : World} {Q R g p : Nat} {B : List Int} {e : Int} {S : List Nat} (h : DR w Q R g B p e) (k : Keeps w w' S) {N : Nat} (hQ : Q < N) (hR : R < N) (hg : 0 < B.length → g < N) (hS : ∀ x ∈ S, N ≤ x) : DR w' Q R g B p e :=
  h.keeps k (fun hm => by have := hS _ hm; omega) (fun hm => by have := hS _ hm; omega) (fun h0 hm => by have := hS _ hm; have := hg h0; omega)
theorem DR.err {w : World} {Q R g p : Nat} {B : List Int} {e : Int} (h : DR w Q R g B p e) (e' : Int) : DR (w.setCell ⟨Q, 1, none⟩ (.int .i64 e')) Q R g B p e' :=
  ⟨by have := h.blk.set 1 (.int .i64 e'); simpa using this, h.rd.keepsC (S := [Q]) ((Keeps.refl w [Q]).setCell (.inr (by simp)) _) (by have := h.qr; simp; omega) (fun h0 => by have := h.qg h0; simp; omega), h.qr, h.qg⟩

theorem must_true (Q R g p : Nat) (B : List Int) (e : Int) (w : World) (h : DR w Q R g B p 0) :
    Calls Tryz.prog 130 #[.pointer (some ⟨Q, 0, none⟩), .bool true, .int .i64 e] w fun x w' => x = .returned (.bool true) ∧ w = w' := by
  have c0 := h.blk.cell 0
  have c1 := h.blk.cell 1
  simp at c0 c1
  clear h
  go_enter Tryz.func130, Tryz.ntmps130
  go_wp2_with fail
  go_ret
  exact ⟨rfl, rfl⟩

theorem must_bad (Q R g p : Nat) (B : List Int) (b : Bool) (e e' : Int) (he : e ≠ 0) (w : World) (h : DR w Q R g B p e) :
    Calls Tryz.prog 130 #[.pointer (some ⟨Q, 0, none⟩), .bool b, .int .i64 e'] w fun x w' => x = .returned (.bool false) ∧ w = w' := by
  have c0 := h.blk.cell 0
  have c1 := h.blk.cell 1
  simp at c0 c1
  have hz : (e == 0) = false := by simpa using he
  clear h
  go_enter Tryz.func130, Tryz.ntmps130
  go_wp2_with fail
  go_ret
  exact ⟨rfl, rfl⟩

theorem must_no (Q R g p : Nat) (B : List Int) (e : Int) (he : e ≠ 0) (w : World) (h : DR w Q R g B p 0) :
    Calls Tryz.prog 130 #[.pointer (some ⟨Q, 0, none⟩), .bool false, .int .i64 e] w fun x w' => x = .returned (.bool false) ∧ DR w' Q R g B p e ∧ Keeps w w' [Q] := by
  have HD := Lib.hid (h.err e)
  have c0 := h.blk.cell 0
  have c1 := h.blk.cell 1
  have f1 := h.blk.frozen 1
  simp at c0 c1
  have hz : (e == 0) = false := by simpa using he
  clear h
  go_enter Tryz.func130, Tryz.ntmps130
  go_wp2_with fail
  go_ret
  exact ⟨rfl, HD.out, (Keeps.refl w _).setCell (.inr (by simp)) _⟩

theorem mayE_in {n r : Nat} (h : n ≤ r) (h64 : n ≤ 64) : mayE (n : Int) r 3 = 0 := by
  unfold mayE
  rw [if_neg (by omega), if_neg (by omega)]
theorem mayE_out {n r : Nat} (h : r < n) (h64 : n ≤ 64) : mayE (n : Int) r 3 = 3 := by
  unfold mayE
  rw [if_neg (by omega), if_pos (by omega)]

set_option maxRecDepth 100000 in
set_option maxHeartbeats 2000000 in
theorem take_ok (Q R g p n : Nat) (B : List Int) (w : World) (h : DR w Q R g B p 0) (h0 : p + n ≤ 8 * B.length) (h62 : n ≤ 62) :
    Calls Tryz.prog 129 #[.pointer (some ⟨Q, 0, none⟩), .int .i64 n] w fun x w' => x = .returned (.int .i64 (bitsAt B p n : Nat)) ∧ DR w' Q R g B (p + n) 0 ∧ Keeps w w' [R] := by
  have HT := Lib.hid (fwdTake_any R g B p (8 * B.length) (n : Int) w h.rd)
  rw [mayE_in (by omega) (by omega), Int.toNat_natCast] at HT
  simp only [if_true] at HT
  have HM := Lib.hid (fun w1 (k : DR w1 Q R g B (p + n) 0) => must_true Q R g (p + n) B 0 w1 k)
  have hb := bitsAt_lt B p n
  have h2 : (2 : Nat) ^ n ≤ 2 ^ 62 := Nat.pow_le_pow_right (by omega) h62
  have h3 : (2 : Nat) ^ 62 = 4611686018427387904 := by decide
  have c0 := h.blk.cell 0
  have c1 := h.blk.cell 1
  simp at c0 c1
  have HH := Lib.hid h
  generalize hV : bitsAt B p n = V at *
  have hV2 : V < 4611686018427387904 := by omega
  clear h hV hb h2 h3
  go_enter Tryz.func129, Tryz.ntmps129
  go_wp2_with fail
  refine HT.out.mono ?_
  rintro e w1 ⟨rfl, hr, k1⟩
  have hd : DR w1 Q R g B (p + n) 0 := ⟨HH.out.blk.keeps k1 (by have := HH.out.qr; simp; omega), hr, HH.out.qr, HH.out.qg⟩
  have HD := Lib.hid hd
  clear hr hd
  go_wp2_with (go_at_call 130; go_loud (refine (HM.out _ HD.out).mono ?_; rintro e w2 ⟨rfl, rfl⟩))
  go_ret
  exact ⟨rfl, HD.out, k1⟩

set_option maxRecDepth 100000 in
set_option maxHeartbeats 2000000 in
theorem take_no (Q R g p n : Nat) (B : List Int) (w : World) (h : DR w Q R g B p 0) (h0 : 8 * B.length < p + n) (h62 : n ≤ 62) :
    Calls Tryz.prog 129 #[.pointer (some ⟨Q, 0, none⟩), .int .i64 n] w fun x w' => x = .returned (.int .i64 0) ∧ DR w' Q R g B p 3 ∧ Keeps w w' [Q] := by
  have HT := Lib.hid (fwdTake_any R g B p (8 * B.length) (n : Int) w h.rd)
  have hab := h.rd.hab
  rw [mayE_out (by omega) (by omega)] at HT
  simp only [show ¬ ((3 : Int) = 0) by decide, if_false] at HT
  have HM := Lib.hid (fun w1 (k : DR w1 Q R g B p 0) => must_no Q R g p B 3 (by decide) w1 k)
  have c0 := h.blk.cell 0
  have c1 := h.blk.cell 1
  simp at c0 c1
  have HH := Lib.hid h
  clear h hab
  go_enter Tryz.func129, Tryz.ntmps129
  go_wp2_with fail
  refine HT.out.mono ?_
  rintro e w1 ⟨rfl, q, rfl⟩
  have HD := Lib.hid (HH.out.keep ((Keeps.refl w []).drewN q))
  have K0 := Lib.hid ((Keeps.refl w [Q]).drewN q)
  go_wp2_with (go_at_call 130; go_loud (refine (HM.out _ HD.out).mono ?_; rintro e w2 ⟨rfl, hd2, k2⟩))
  go_ret
  exact ⟨rfl, hd2, K0.out.trans k2 (fun j hj _ => hj)⟩

theorem log2_cut {m : Nat} (h0 : 0 < m) (h : m ≤ 2000) : m.log2 ≤ 10 ∧ 2 ^ m.log2 ≤ m ∧ m < 2 * 2 ^ m.log2 := by
  have h1 := log2_le h0
  have h2 := log2_ltD h0
  rw [Nat.pow_succ] at h2
  refine ⟨?_, h1, by omega⟩
  by_cases h4 : m.log2 ≤ 10
  · exact h4
  · have h5 : (2 : Nat) ^ 11 ≤ 2 ^ m.log2 := Nat.pow_le_pow_right (by decide) (by omega)
    have h6 : (2 : Nat) ^ 11 = 2048 := by decide
    omega
set_option maxRecDepth 100000 in
set_option maxHeartbeats 2000000 in
theorem cut_any (m : Nat) (w : World) (h0 : 0 < m) (h : m ≤ 2000) :
    Calls Tryz.prog 163 #[.int .i64 m] w fun x w' => x = .returned (.tuple #[.int .i64 (m.log2 : Nat), .int .i64 ((2 * 2 ^ m.log2 - m : Nat) : Int)]) ∧ ∃ q, w' = w.drewN q := by
  obtain ⟨h1, h2, h3⟩ := log2_cut h0 h
  have HL := Lib.hid (Tryz.bits_Len (m : Int) w (by omega) (by omega))
  rw [Int.toNat_natCast, bitLen_log h0 (by omega)] at HL
  have hm : (m : Int) % 18446744073709551616 = m := by omega
  obtain ⟨b, hb⟩ : ∃ b, m.log2 = b := ⟨_, rfl⟩
  rw [hb] at HL h1 h2 h3 ⊢
  obtain ⟨Pw, hPw⟩ : ∃ x, 2 ^ b = x := ⟨_, rfl⟩
  have hI : (2 : Int) ^ b = (Pw : Int) := by rw [← hPw]; simp
  rw [hPw] at h2 h3 ⊢
  obtain ⟨T, hT⟩ : ∃ T, 2 * Pw = T := ⟨_, rfl⟩
  obtain ⟨D, hD⟩ : ∃ D : Int, (T : Int) - (m : Int) = D := ⟨_, rfl⟩
  have h2T : (2 : Int) * 2 ^ b = (T : Int) := by rw [hI, ← hT]; omega
  have HW : Hid (wrap64 (wrap64 (2 * 2 ^ b) - (m : Int)) = D) := by
    show _ = _
    rw [h2T, IntWalk.wrap64_in (T : Int) ⟨by omega, by omega⟩, hD, IntWalk.wrap64_in D ⟨by omega, by omega⟩]
  rw [hT]
  have e : ((T - m : Nat) : Int) = D := by omega
  rw [e]
  clear h0 h h2 h3 hb hT e hD h2T hI hPw
  go_enter Tryz.func163, Tryz.ntmps163
  go_wp2_with fail
  refine HL.out.mono ?_
  rintro e w1 ⟨rfl, rfl⟩
  go_wp2_with fail
  go_quiet (fail)
  go_wp2_with fail
  go_ret2
  exact ⟨by rw [← HW.out]; rfl, _, rfl⟩

/-- How a number ends. -/
def NumbEnd (w : World) (Q R g : Nat) (B : List Int) (Z : Except Int (Nat × List Bool)) (e : Ending) (w' : World) : Prop :=
  Keeps w w' [Q, R] ∧ match Z with
    | .ok (v, L1) => e = .returned (.int .i64 (v : Int)) ∧ ∃ p', L1 = (rowBits B).drop p' ∧ p' ≤ 8 * B.length ∧ DR w' Q R g B p' 0
    | .error n => (∃ x : Int, e = .returned (.int .i64 x)) ∧ n ≠ 0 ∧ ∃ p', DR w' Q R g B p' n
theorem numEnd_ok {w w' : World} {Q R g : Nat} {B : List Int} {v p' : Nat} {x : Int} (k : Keeps w w' [Q, R]) (hx : x = (v : Int)) (h : p' ≤ 8 * B.length) (hd : DR w' Q R g B p' 0) : NumbEnd w Q R g B (.ok (v, (rowBits B).drop p')) (.returned (.int .i64 x)) w' := by
  subst hx
  exact ⟨k, rfl, p', rfl, h, hd⟩
theorem numEnd_no {w w' : World} {Q R g : Nat} {B : List Int} {x n : Int} {p' : Nat} (k : Keeps w w' [Q, R]) (hn : n ≠ 0) (hd : DR w' Q R g B p' n) : NumbEnd w Q R g B (.error n) (.returned (.int .i64 x)) w' :=
  ⟨k, ⟨x, rfl⟩, hn, p', hd⟩
theorem tk_drop {B : List Int} {p n : Nat} (h : p + n ≤ 8 * B.length) : tk ((rowBits B).drop p) n = .ok (bitsAt B p n, (rowBits B).drop (p + n)) := by
  rw [tk_ok (by rw [List.length_drop, rowBits_len]; omega), List.drop_drop]
  rfl
theorem tk_short {B : List Int} {p n : Nat} (h : 8 * B.length < p + n) (hn : 0 < n) : tk ((rowBits B).drop p) n = .error 3 := by
  rw [tk_no (by rw [List.length_drop, rowBits_len]; omega)]

/-- The method as a value. -/
abbrev takeV (Q : Nat) : Value := .func (.func 129) #[.pointer (some ⟨Q, 0, none⟩)] #[]

set_option maxRecDepth 100000 in
set_option maxHeartbeats 4000000 in
theorem number_any1 (Q R g p m : Nat) (B : List Int) (w : World) (h : DR w Q R g B p 0) (h2 : 2 ≤ m) (hm : m ≤ 2000) :
    Calls Tryz.prog 131 #[.pointer (some ⟨Q, 0, none⟩), .int .i64 m, takeV Q] w (NumbEnd w Q R g B (numP ((rowBits B).drop p) m)) := by
  obtain ⟨l1, l2, l3⟩ := log2_cut (m := m) (by omega) hm
  have HC := Lib.hid (cut_any m w (by omega) hm)
  have hl0 : 0 < m.log2 := by
    rcases Nat.eq_zero_or_pos m.log2 with h0 | h0
    · rw [h0] at l3; simp at l3; omega
    · exact h0
  obtain ⟨Z, hZ⟩ : ∃ Z, numP ((rowBits B).drop p) m = Z := ⟨_, rfl⟩
  have HZ := Lib.hid hZ
  rw [hZ]
  clear hZ
  unfold numP at HZ
  rw [Nat.pow_succ, Nat.mul_comm _ 2] at HZ
  obtain ⟨Pw, hPw⟩ : ∃ x, 2 ^ m.log2 = x := ⟨_, rfl⟩
  rw [hPw] at l2 l3 HC HZ
  obtain ⟨b, hb⟩ : ∃ b, m.log2 = b := ⟨_, rfl⟩
  rw [hb] at HC HZ l1 hl0
  have hPb : Pw = 2 ^ b := by rw [← hPw, hb]
  obtain ⟨u, hu⟩ : ∃ u, 2 * Pw - m = u := ⟨_, rfl⟩
  rw [hu] at HC HZ
  have hu0 : 0 < u := by omega
  have hu1 : u ≤ 2000 := by omega
  by_cases hA : p + b ≤ 8 * B.length
  · have HT := Lib.hid (fun w1 (d : DR w1 Q R g B p 0) => take_ok Q R g p b B w1 d hA (by omega))
    rw [tk_drop hA] at HZ
    simp only at HZ
    have hvl := bitsAt_lt B p b
    rw [← hPb] at hvl
    obtain ⟨t, ht⟩ : ∃ t, bitsAt B p b = t := ⟨_, rfl⟩
    rw [ht] at HT HZ hvl
    have ht2 : t ≤ 2000 := by omega
    by_cases hlt : t < u
    · rw [if_pos hlt] at HZ
      have hlt' : (t : Int) < (u : Int) := by omega
      have HH := Lib.hid h
      have HA := Lib.hid hA
      clear h l1 l2 l3 hl0 hPw hb hPb hu hu0 hA hvl ht hlt
      go_enter Tryz.func131, Tryz.ntmps131
      go_wp2_with (go_at_call 163; go_loud (refine HC.out.mono ?_; rintro e w1 ⟨rfl, q, rfl⟩))
      have k0 := (Keeps.refl w []).drewN q
      refine (HT.out _ (HH.out.keep k0)).mono ?_
      rintro e w2 ⟨rfl, d2, k2⟩
      go_wp2_with fail
      go_ret
      rw [← HZ.out]
      exact numEnd_ok (((k0.mono (S' := [Q, R]) (fun _ h => by cases h)).trans k2 (fun j hj _ => by have := List.mem_singleton.1 hj; simp [this]))) rfl HA.out d2
    · rw [if_neg hlt] at HZ
      have hlt' : decide ((t : Int) < (u : Int)) = false := decide_eq_false (by omega)
      have hlt2 : decide (t < u) = false := decide_eq_false (by omega)
      have hw1 : wrap64 (2 * (t : Int)) = 2 * (t : Int) := IntWalk.wrap64_in _ ⟨by omega, by omega⟩
      by_cases hB : p + b + 1 ≤ 8 * B.length
      · have HT2 := Lib.hid (fun w1 (d : DR w1 Q R g B (p + b) 0) => take_ok Q R g (p + b) 1 B w1 d hB (by omega))
        rw [show ((1 : Nat) : Int) = 1 from rfl] at HT2
        rw [tk_drop hB] at HZ
        simp only at HZ
        have hcl := bitsAt_lt B (p + b) 1
        obtain ⟨c, hc⟩ : ∃ c, bitsAt B (p + b) 1 = c := ⟨_, rfl⟩
        rw [hc] at HT2 HZ hcl
        obtain ⟨D, hD⟩ : ∃ D : Int, 2 * (t : Int) + (c : Int) = D := ⟨_, rfl⟩
        have hw2 : wrap64 D = D := IntWalk.wrap64_in _ ⟨by omega, by omega⟩
        obtain ⟨E, hE⟩ : ∃ E : Int, D - (u : Int) = E := ⟨_, rfl⟩
        have hw3 : wrap64 E = E := IntWalk.wrap64_in _ ⟨by omega, by omega⟩
        have HE : Hid (E = ((2 * t + c - u : Nat) : Int)) := by show _ = _; omega
        have HH := Lib.hid h
        have HA := Lib.hid hB
        clear h l1 l2 l3 hl0 hPw hb hPb hu hu0 hA hB hvl ht hlt hc hcl
        go_enter Tryz.func131, Tryz.ntmps131
        go_wp2_with (go_at_call 163; go_loud (refine HC.out.mono ?_; rintro e w1 ⟨rfl, q, rfl⟩))
        have k0 := (Keeps.refl w []).drewN q
        refine (HT.out _ (HH.out.keep k0)).mono ?_
        rintro e w2 ⟨rfl, d2, k2⟩
        go_wp2_with fail
        refine (HT2.out _ d2).mono ?_
        rintro e w3 ⟨rfl, d3, k3⟩
        go_wp2_with fail
        go_ret
        rw [← HZ.out]
        exact numEnd_ok ((((k0.mono (S' := [Q, R]) (fun _ h => by cases h)).trans k2 (fun j hj _ => by have := List.mem_singleton.1 hj; simp [this]))).trans k3 (fun j hj _ => by have := List.mem_singleton.1 hj; simp [this])) (by first | exact HE.out | (rw [hw3]; exact HE.out)) HA.out d3
      · have HT2 := Lib.hid (fun w1 (d : DR w1 Q R g B (p + b) 0) => take_no Q R g (p + b) 1 B w1 d (by omega) (by omega))
        rw [show ((1 : Nat) : Int) = 1 from rfl] at HT2
        rw [tk_short (by omega) (by omega)] at HZ
        simp only at HZ
        obtain ⟨D, hD⟩ : ∃ D : Int, 2 * (t : Int) + 0 = D := ⟨_, rfl⟩
        have hD' : 2 * (t : Int) = D := by omega
        have hw2 : wrap64 D = D := IntWalk.wrap64_in _ ⟨by omega, by omega⟩
        rw [hD'] at hw1
        have HH := Lib.hid h
        clear h l1 l2 l3 hl0 hPw hb hPb hu hu0 hA hB hvl ht hlt hD
        go_enter Tryz.func131, Tryz.ntmps131
        go_wp2_with (go_at_call 163; go_loud (refine HC.out.mono ?_; rintro e w1 ⟨rfl, q, rfl⟩))
        have k0 := (Keeps.refl w []).drewN q
        refine (HT.out _ (HH.out.keep k0)).mono ?_
        rintro e w2 ⟨rfl, d2, k2⟩
        go_wp2_with fail
        refine (HT2.out _ d2).mono ?_
        rintro e w3 ⟨rfl, d3, k3⟩
        go_wp2_with fail
        go_ret
        rw [← HZ.out]
        exact numEnd_no ((((k0.mono (S' := [Q, R]) (fun _ h => by cases h)).trans k2 (fun j hj _ => by have := List.mem_singleton.1 hj; simp [this]))).trans k3 (fun j hj _ => by have := List.mem_singleton.1 hj; simp [this])) (by decide) d3
  · have HT := Lib.hid (fun w1 (d : DR w1 Q R g B p 0) => take_no Q R g p b B w1 d (by omega) (by omega))
    rw [tk_short (by omega) hl0] at HZ
    simp only at HZ
    have hlt' : (0 : Int) < (u : Int) := by omega
    have HH := Lib.hid h
    clear h l1 l2 l3 hl0 hPw hb hPb hu hu0 hA
    go_enter Tryz.func131, Tryz.ntmps131
    go_wp2_with (go_at_call 163; go_loud (refine HC.out.mono ?_; rintro e w1 ⟨rfl, q, rfl⟩))
    have k0 := (Keeps.refl w []).drewN q
    refine (HT.out _ (HH.out.keep k0)).mono ?_
    rintro e w2 ⟨rfl, d2, k2⟩
    go_wp2_with fail
    go_ret
    rw [← HZ.out]
    exact numEnd_no (((k0.mono (S' := [Q, R]) (fun _ h => by cases h)).trans k2 (fun j hj _ => by have := List.mem_singleton.1 hj; simp [this]))) (by decide) d2
end

section
set_option linter.unusedVariables false
set_option linter.unusedSimpArgs false
set_option linter.unusedSectionVars false
open Go.RowKit

theorem zeroCells_one (z : Value) (m : Nat) : Builtin.zeroCells #[z] m = (List.replicate m z).toArray := by
  unfold Builtin.zeroCells
  apply Array.ext
  · simp
  · intro i h1 h2
    simp [Nat.mod_one]

theorem run_append_zeros {P : Program} {w : World} (base : Nat) (t tn ty e : TypeId) (i : TypeInfo) (z : Value) (kq kn : IntKind) (bytes : Nat) (ht : P.underlying t = some (.slice e)) (htn : P.underlying tn = some (.int kn)) (hi : P.info? e = some i) (hz : i.zero = some z)
    (hsize : i.size = 1) (hby : i.bytes = bytes) (hzs : z.cells = #[z]) (hz1 : z.oneCell' = true) (v : Value) (n : Nat) (xs : List Value) (hown : w.ownsRow base e 1 v n xs) (m : Nat) (h63 : n + m ≤ maxLen) (hbytes : (n + m) * bytes ≤ 140737488355328) (hbase : base ≤ w.heap.size) :
    ∃ v' w', (Builtin.append_ #[t, tn] ty #[v, .int kq m]).run P w = .ok v' w' ∧ w'.ownsRow base e 1 v' (n + m) (xs ++ List.replicate m z) ∧ w.grownBy w' v.ownBlock := by
  subst hby
  have hsmall : n + m ≤ 9223372036854775807 := by simp only [maxLen] at h63; omega
  have hw : IntKind.i64.wrap (m : Int) = m := by rw [IntKind.wrap_i64]; omega
  have hneg : ¬ ((m : Int) < 0) := by omega
  have hmb : m * i.bytes ≤ (n + m) * i.bytes := Nat.mul_le_mul_right _ (by omega)
  have h48i : ¬ (281474976710656 < (m : Int) * (i.bytes : Int)) := by rw [← Int.natCast_mul]; omega
  have hlen : (xs ++ List.replicate m z).length = (n + m) * 1 := by rw [List.length_append, hown.1, List.length_replicate]; omega
  by_cases hm : m = 0
  · subst hm
    have hw0 : IntKind.i64.wrap 0 = 0 := by decide
    refine ⟨v, w, ?_, by simpa using hown, grown_refl w _⟩
    rcases hown.2 with ⟨rfl, rfl⟩ | ⟨g, cap, cur, rfl, hbg, hg, hnc, hcm, hcs, htake⟩
    · simp [Builtin.append_, run_underlying ht, run_underlying htn, sizeOf, typeInfo, hi, asInt, asIntOf, hw0]
    · simp [Builtin.append_, run_underlying ht, run_underlying htn, sizeOf, typeInfo, hi, asInt, asIntOf, hw0, hnc, storeCells]
  · have hns : ¬ (m * i.size = 0) := Nat.mul_ne_zero hm (by omega)
    have grown : ∀ (old : Nat), old < n + m → ∀ (row : Option Nat),
        (w.drew.alloc (.cells (xs.toArray ++ Builtin.zeroCells z.cells m ++ Builtin.zeroCells z.cells (grownCap w (n + m) old e - (n + m))) e)).ownsRow base e 1
          (.slice (some ⟨w.heap.size, 0, none⟩) (n + m) (grownCap w (n + m) old e)) (n + m) (xs ++ List.replicate m z) ∧
        w.grownBy (w.drew.alloc (.cells (xs.toArray ++ Builtin.zeroCells z.cells m ++ Builtin.zeroCells z.cells (grownCap w (n + m) old e - (n + m))) e)) row := by
      intro old ho row
      have hge := grownCap_ge w (n + m) old e
      have hcm : grownCap w (n + m) old e ≤ maxLen := grownCap_le_maxLen w (n + m) old e h63
      have hxl := hown.1
      rw [hzs, zeroCells_one, zeroCells_one]
      refine ⟨⟨hlen, .inr ⟨w.heap.size, _, _, rfl, hbase, heap_alloc_new w.drew _, hge, hcm, ?_, ?_⟩⟩, ⟨rfl, rfl, rfl, by simp, fun k hk _ => Below.heap_alloc w.drew _ k (by simpa using hk)⟩⟩
      · simp only [Array.size_append, List.size_toArray, List.length_replicate]
        omega
      · simp only [Array.toList_append, List.append_assoc]
        rw [← List.append_assoc, ← hlen]
        exact List.take_left
    rcases hown.2 with ⟨rfl, rfl⟩ | ⟨g, cap, cur, rfl, hbg, hg, hnc, hcm, hcs, htake⟩
    · have hx : xs = [] := List.eq_nil_of_length_eq_zero (by simpa using hown.1)
      subst hx
      have hr := Lib.run_append_nil_zeros (P := P) w t tn ty e i z kq kn ht htn hi hz m (by omega) (by omega) (by omega) (by omega)
      have hgr := grown 0 (by omega) (Value.ownBlock (.slice none 0 0))
      simp only [Nat.zero_add, List.nil_append, Array.empty_append] at hgr ⊢
      exact ⟨_, _, hr, hgr.1, hgr.2⟩
    · by_cases hroom : n + m ≤ cap
      · have hst := run_storeCells_at P g n e (List.replicate m z) 0 cur w hg (by rw [List.length_replicate]; omega) (fun u hu => by rw [(List.mem_replicate.1 hu).2]; exact hz1)
        simp only [Nat.add_zero] at hst
        have hz0 : (zeroValue e).run P w = .ok z w := by simp [zeroValue, typeInfo, hi, hz]
        have hr : (Builtin.append_ #[t, tn] ty #[.slice (some ⟨g, 0, none⟩) n cap, .int kq m]).run P w = .ok (.slice (some ⟨g, 0, none⟩) (n + m) cap) (w.setRow g (cur.toList.take n ++ List.replicate m z ++ cur.toList.drop (n + (List.replicate m z).length)).toArray) := by
          simp [Builtin.append_, run_underlying ht, run_underlying htn, sizeOf, typeInfo, hi, asInt, asIntOf, hw, hneg, h48i, hm, hsize, hz0, hzs, zeroCells_one, hroom, Addr.add_lit, hst]
        refine ⟨_, _, hr, ⟨hlen, .inr ⟨g, cap, _, rfl, hbg, setRow_heap w g cur _ e _ hg, hroom, hcm, ?_, ?_⟩⟩, ⟨rfl, rfl, rfl, by simp, fun k _ hk => setRow_other w g k _ (fun e => hk (by simp [Value.ownBlock, e]))⟩⟩
        · simp only [List.size_toArray, List.length_append, List.length_take, List.length_drop, Array.length_toList, List.length_replicate]
          omega
        · rw [Nat.mul_one] at htake
          rw [htake, ← hlen]
          exact List.take_left
      · have holds : ∀ j u, xs[j]? = some u → w.cell? ((⟨g, 0, none⟩ : Addr).add j) = some u := hown.cells (g := g) rfl
        have hr := Lib.run_append_grow_zeros (P := P) w t tn ty e i z kq kn ht htn hi hz (some ⟨g, 0, none⟩) n cap xs (run_firstCells_some (P := P) w.drew i.size n ⟨g, 0, none⟩ n cap xs (by rw [hown.1, hsize]) holds) m (by omega) (by omega) (by omega) (by omega) (by omega) (growslice_fits (by omega) hbytes)
        have hgr := grown cap (by omega) (Value.ownBlock (.slice (some ⟨g, 0, none⟩) n cap))
        exact ⟨_, _, hr, hgr.1, hgr.2⟩

/-- The same as an operation of the walk. -/
theorem wpList_append_zeros {P : Program} {ops : Array Oper} {rest : List Oper} {o : Oper} {a : Act} {w : World} {Q : Exit → Act → World → Prop} (hgd : o.guard = none) (s x : Operand) (t tn : TypeId)
    (ho : o.op = .call { callee := .builtin .append, args := #[s, x], argTypes := #[t, tn] })
    (base : Nat) (e : TypeId) (i : TypeInfo) (z : Value) (kq kn : IntKind) (bytes : Nat) (ht : P.underlying t = some (.slice e)) (htn : P.underlying tn = some (.int kn)) (hi : P.info? e = some i) (hz : i.zero = some z)
    (hsize : i.size = 1) (hby : i.bytes = bytes) (hzs : z.cells = #[z]) (hz1 : z.oneCell' = true) (v : Value) (n : Nat) (xs : List Value) (hs : a.eval s = v) (hown : w.ownsRow base e 1 v n xs) (m : Nat) (hx : a.eval x = .int kq m) (h63 : n + m ≤ maxLen) (hbytes : (n + m) * bytes ≤ 140737488355328) (hbase : base ≤ w.heap.size)
    (h : ∀ a' c' w', w'.ownsRow base e 1 (.slice a' (n + m) c') (n + m) (xs ++ List.replicate m z) → Keeps w w' (match v.ownBlock with | some g => [g] | none => []) → wpList P ops Q rest (a.put o.dst (.slice a' (n + m) c')) w') :
    wpList P ops Q (o :: rest) a w := by
  obtain ⟨v', w', hr, h1, h2⟩ := run_append_zeros (P := P) (w := w) base t tn o.type e i z kq kn bytes ht htn hi hz hsize hby hzs hz1 v n xs hown m h63 hbytes hbase
  obtain ⟨a', c', rfl⟩ := own_form h1
  exact Lib.wpList_append_run w hgd s x t tn ho _ _ hs hx _ _ hr (h a' c' w' h1 (Keeps.of_grown h2 (fun k hk => by rw [hk]; simp)))
end

section
set_option linter.unusedVariables false
set_option linter.unusedSimpArgs false
open Go.RowKit

/-- The greatest number, 0 at least. -/
def mxL (l : List Int) : Int := l.foldl max 0
theorem mxL_snoc (l : List Int) (x : Int) : mxL (l ++ [x]) = max (mxL l) x := by simp [mxL]
theorem foldl_max_ge (l : List Int) (a : Int) : a ≤ l.foldl max a ∧ (∀ x ∈ l, x ≤ l.foldl max a) ∧ (l.foldl max a = a ∨ l.foldl max a ∈ l) := by
  induction l generalizing a with
  | nil => simp
  | cons y l ih =>
    obtain ⟨h1, h2, h3⟩ := ih (max a y)
    simp only [List.foldl_cons]
    refine ⟨by omega, fun x hx => ?_, ?_⟩
    · rcases List.mem_cons.1 hx with rfl | hx
      · omega
      · exact h2 x hx
    · rcases h3 with h3 | h3
      · rcases Int.le_total a y with h | h
        · right; rw [h3, Int.max_eq_right h]; simp
        · left; rw [h3]; exact Int.max_eq_left h
      · right; simp [h3]
theorem mxL_nonneg (l : List Int) : 0 ≤ mxL l := (foldl_max_ge l 0).1
theorem mxL_ge {l : List Int} {x : Int} (h : x ∈ l) : x ≤ mxL l := (foldl_max_ge l 0).2.1 x h
theorem mxL_le {l : List Int} {m : Int} (h0 : 0 ≤ m) (h : ∀ x ∈ l, x ≤ m) : mxL l ≤ m := by
  rcases (foldl_max_ge l 0).2.2 with h1 | h1
  · unfold mxL; omega
  · exact h _ h1
theorem usedF_pos {l : List Int} (i : Nat) : 0 < (usedF i l).length ↔ ∃ x ∈ l, 0 < x := by
  induction l generalizing i with
  | nil => simp [usedF]
  | cons y l ih =>
    simp only [usedF]
    by_cases h : 0 < y
    · rw [if_pos h]; simp [h]
    · rw [if_neg h, ih (i + 1)]; simp [h]
theorem usedL_pos {l : List Int} : 0 < (usedL l).length ↔ ∃ x ∈ l, 0 < x := usedF_pos 0
/-- Is a number between 0 and m? -/
def finM (m n : Int) : Bool := decide (0 ≤ n) && decide (n ≤ m)
theorem finM_iff {m x : Int} : finM m x = true ↔ 0 ≤ x ∧ x ≤ m := by simp [finM]

/-! ### Trees -/
/-- The sum of Kraft in parts of 2^11. -/
def sum11 : List Int → Nat
  | [] => 0
  | x :: l => (if 0 < x then 2 ^ (11 - x.toNat) else 0) + sum11 l
theorem sum11_append (a b : List Int) : sum11 (a ++ b) = sum11 a + sum11 b := by
  induction a with
  | nil => simp [sum11]
  | cons x a ih => simp only [List.cons_append, sum11, ih]; omega
theorem sum11_snoc (l : List Int) (x : Int) : sum11 (l ++ [x]) = sum11 l + (if 0 < x then 2 ^ (11 - x.toNat) else 0) := by
  rw [sum11_append]; simp [sum11]
theorem sum11_le (l : List Int) : sum11 l ≤ 1024 * l.length := by
  induction l with
  | nil => simp [sum11]
  | cons x l ih =>
    simp only [sum11, List.length_cons]
    split
    · have : 2 ^ (11 - x.toNat) ≤ 2 ^ 10 := Nat.pow_le_pow_right (by decide) (by omega)
      omega
    · omega
def treeL (l : List Int) : Bool := (decide (l.length ≤ 256) && l.all (finM 11)) && (decide (1 < (usedL l).length) && decide (sum11 l = 2048))
theorem treeL_iff {l : List Int} : treeL l = true ↔ l.length ≤ 256 ∧ (∀ x ∈ l, 0 ≤ x ∧ x ≤ 11) ∧ 1 < (usedL l).length ∧ sum11 l = 2048 := by
  simp [treeL, finM, and_assoc]
theorem usedL_count {l : List Int} {k : Nat} {x : Int} (h : l[k]? = some x) : (usedL (l.take (k + 1))).length = (usedL (l.take k)).length + if 0 < x then 1 else 0 := by
  rw [take_next h, usedL_snoc, List.length_append]; split <;> rfl
theorem pow11 {X : Nat} (h1 : 1 ≤ X) (h2 : X ≤ 11) : wrap64 ((2 : Int) ^ (11 - X)) = ((2 ^ (11 - X) : Nat) : Int) ∧ 2 ^ (11 - X) ≤ 1024 := by
  have h : (2:Nat) ^ (11 - X) ≤ 2 ^ 10 := Nat.pow_le_pow_right (by decide) (by omega)
  have h3 : (2 : Nat) ^ 10 = 1024 := by decide
  rw [h3] at h
  have h4 : ((2 : Int) ^ (11 - X)) = ((2 ^ (11 - X) : Nat) : Int) := by simp
  refine ⟨?_, h⟩
  rw [h4]
  generalize 2 ^ (11 - X) = N at *
  exact IntWalk.wrap64_in _ ⟨by omega, by omega⟩
end

section
set_option linter.unusedVariables false
set_option linter.unusedSimpArgs false
set_option linter.unusedSectionVars false
open Go.RowKit

theorem usedT_len (l : List Int) (k : Nat) : (usedL (l.take k)).length ≤ k := by
  have := usedL_len (l.take k)
  simp at this
  omega

set_option maxHeartbeats 2000000 in
theorem c_right (v : Value) (l : List Int) (w : World) (hv : RdI .i64 w v l) (hn : l.length ≤ 1000000) :
    Calls Tryz.prog 120 #[v] w fun e w' => e = .returned (.bool (treeL l)) ∧ w = w' := by
  obtain ⟨A0, n, cp0, rfl, hnl, -⟩ := hv.form
  have HV := Lib.hid hv
  have HN := Lib.hid hnl
  have hn' : n ≤ 1000000 := by omega
  obtain ⟨R, hR⟩ : ∃ R, R = treeL l := ⟨_, rfl⟩
  have HR := Lib.hid hR
  rw [← hR]
  clear hv hnl hn hR
  go_enter Tryz.func120, Tryz.ntmps120
  go_wp2_with fail
  go_loop [3, 4, 9] (fun s c i => ∃ k : Nat, k ≤ n ∧ i = .int .i64 k ∧ s = .int .i64 (sum11 (l.take k) : Nat) ∧ c = .int .i64 (usedL (l.take k)).length ∧ Hid ((l.take k).all (finM 11) = true)) (fun _ _ i => n - (intOf i).toNat)
  case atStart => exact ⟨0, Nat.zero_le _, rfl, rfl, rfl, by simp [Hid]⟩
  case round =>
    obtain ⟨k, hk, rfl, rfl, rfl, hall⟩ := hrel
    by_cases hlt : k < n
    · obtain ⟨x, hx⟩ : ∃ x, l[k]? = some x := ⟨_, List.getElem?_eq_getElem (by have := HN.out; omega)⟩
      obtain ⟨b, o, rfl, hb, hc⟩ := HV.out.at hx
      have hcap := HV.out.cap
      have hkn : (k : Int) < (n : Int) := by omega
      have hs1 := sum11_le (l.take k)
      have hs2 : (l.take k).length ≤ k := List.length_take_le _ _
      have hu1 := usedT_len l k
      have HST : Hid (sum11 (l.take (k + 1)) = sum11 (l.take k) + if 0 < x then 2 ^ (11 - x.toNat) else 0) := by show _ = _; rw [take_next hx, sum11_snoc]
      have HUC := Lib.hid (usedL_count hx)
      have HAL : Hid (finM 11 x = true → (l.take (k + 1)).all (finM 11) = true) := fun h => by rw [take_next hx, List.all_append, hall.out]; simp [h]
      have HBAD : Hid (finM 11 x = false → R = false) := fun h => by
        rw [HR.out, Bool.eq_false_iff]
        intro ht
        have := (treeL_iff.1 ht).2.1 x (List.mem_of_getElem? hx)
        rw [← Bool.not_eq_true, finM_iff] at h
        exact h this
      obtain ⟨S, hS⟩ : ∃ S, S = sum11 (l.take k) := ⟨_, rfl⟩
      obtain ⟨U, hU⟩ : ∃ U, U = (usedL (l.take k)).length := ⟨_, rfl⟩
      rw [← hS] at hs1 HST ⊢
      rw [← hU] at hu1 HUC ⊢
      have hS9 : (S : Int) ≤ 1024000000 := by omega
      have hU9 : (U : Int) ≤ 1000000 := by omega
      clear hx hS hU hs1 hs2
      by_cases hx0 : x < 0
      · obtain rfl := HBAD.out (by simp [finM]; omega)
        go_wp2_with fail
        go_ret
        exact ⟨rfl, rfl⟩
      · have d0 : decide (x < 0) = false := decide_eq_false hx0
        by_cases hx11 : 11 < x
        · obtain rfl := HBAD.out (by simp [finM]; omega)
          go_wp2_with fail
          go_ret
          exact ⟨rfl, rfl⟩
        · have d1 : decide (11 < x) = false := decide_eq_false hx11
          have NAL := Lib.hid (HAL.out (finM_iff.2 ⟨by omega, by omega⟩))
          by_cases hp : 0 < x
          · obtain ⟨X, rfl⟩ : ∃ X : Nat, x = (X : Int) := ⟨x.toNat, by omega⟩
            have hX1 : 1 ≤ X := by omega
            have hX2 : X ≤ 11 := by omega
            have wsub : IntKind.i64.wrap (11 - (X : Int)) = ((11 - X : Nat) : Int) := by rw [IntWalk.i64_in _ (by omega)]; omega
            have hsum : Hid (wrap64 ((S : Int) + wrap64 ((2 : Int) ^ (11 - X))) = ((sum11 (l.take (k + 1)) : Nat) : Int)) := by
              obtain ⟨h3, h4⟩ := pow11 hX1 hX2
              show _ = _
              rw [h3, HST.out, if_pos hp, Int.toNat_natCast]
              clear h3
              generalize 2 ^ (11 - X) = P at *
              rw [IntWalk.wrap64_in _ ⟨by omega, by omega⟩]
              omega
            clear HBAD HAL HST
            go_wp2_with fail
            go_round
            case rel => exact ⟨k + 1, by omega, by go_num, by rw [hsum.out], by rw [HUC.out, if_pos hp]; go_num, NAL⟩
            case measure => simp [intOf]; omega
          · have d2 : decide (0 < x) = false := decide_eq_false hp
            clear HBAD HAL
            go_wp2_with fail
            go_round
            case rel => exact ⟨k + 1, by omega, by go_num, by rw [HST.out, if_neg hp, Nat.add_zero], by rw [HUC.out, if_neg hp, Nat.add_zero], NAL⟩
            case measure => simp [intOf]; omega
    · obtain rfl : k = n := by omega
      have hR2 : Hid (R = ((decide ((k : Int) ≤ 256) && decide (1 < ((usedL (l.take k)).length : Int))) && ((sum11 (l.take k) : Nat) : Int) == 2048)) := by
        have e : l.take k = l := List.take_of_length_le (by have := HN.out; omega)
        have h1 := hall.out
        rw [e] at h1
        show _ = _
        rw [HR.out, e, Bool.eq_iff_iff]
        have h2 := HN.out
        simp [treeL, h1, ← h2]
        omega
      have HR2 := Lib.hid hR2.out
      clear hR2 HR
      generalize sum11 (l.take k) = S at *
      generalize (usedL (l.take k)).length = U at *
      go_wp2_with fail
      all_goals
        go_ret
        refine ⟨ret_bool ?_, rfl⟩
        rw [HR2.out]
        first | (simp [*]; done) | (simp [*]; omega)
end

section
set_option linter.unusedVariables false
set_option linter.unusedSimpArgs false
set_option linter.unusedSectionVars false
open Go.RowKit

def raisedBy (n : Int) (b : Bool) : PanicEntry := { v := .iface 24 (.int .i64 n), recovered := b }

theorem index1_any (bf : Nat) (b : Bool) (w : World) (h : Blk w bf #[.bool b] 4) :
    Calls Tryz.prog 177 #[.slice (some ⟨bf, 0, none⟩) 1 1, .bool false] w fun e w' => e = .returned (.int .i64 (if b then -1 else 0)) ∧ w = w' := by
  obtain ⟨c0, -⟩ := h.one
  cases b with
  | false =>
    go_enter Tryz.func177, Tryz.ntmps177
    go_wp2_with fail
    refine wp_loop_rounds 1 ?_
    rw [rounds_succ]
    go_wp2_with fail
    go_ret
    exact ⟨rfl, rfl⟩
  | true =>
    go_enter Tryz.func177, Tryz.ntmps177
    go_wp2_with fail
    refine wp_loop_rounds 2 ?_
    rw [rounds_succ]
    go_wp2_with fail
    rw [rounds_succ]
    go_wp2_with fail
    go_ret
    exact ⟨rfl, rfl⟩
/-- Does a slice of conditions hold false? -/
def ConOk (vf : Value) (ok : Bool) (w : World) : Prop := ∀ w', Keeps w w' [] → Calls Tryz.prog 156 #[vf, .bool false] w' fun e w'' => e = .returned (.bool (!ok)) ∧ w' = w''
theorem contains1_any (bf : Nat) (b : Bool) (w : World) (h : Blk w bf #[.bool b] 4) : ConOk (.slice (some ⟨bf, 0, none⟩) 1 1) b w := fun w' k => by
  have G := Lib.hid (index1_any bf b w' (h.keeps k (by simp)))
  clear h k
  cases b
  all_goals
    simp only [Bool.false_eq_true, if_false, if_true] at G
    go_enter Tryz.func156, Tryz.ntmps156
    go_wp2_with (go_at_call 177; refine G.out.mono ?_; rintro e w5 ⟨rfl, rfl⟩)
    go_ret
    exact ⟨rfl, rfl⟩
theorem cmust_yes (n : Int) (bf : Nat) (w : World) (h : Blk w bf #[.bool true] 4) : Calls Tryz.prog 119 #[.int .i64 n, .slice (some ⟨bf, 0, none⟩) 1 1] w fun e w' => e = .returned (.tuple #[]) ∧ w = w' := by
  have G := Lib.hid (contains1_any bf true w h w (Keeps.refl w []))
  clear h
  go_enter Tryz.func119, Tryz.ntmps119
  go_wp2_with (go_at_call 156; refine G.out.mono ?_; rintro e w5 ⟨rfl, rfl⟩)
  go_end0
  exact ⟨rfl, rfl⟩
theorem cmust_no (n : Int) (bf : Nat) (w : World) (h : Blk w bf #[.bool false] 4) : Calls Tryz.prog 119 #[.int .i64 n, .slice (some ⟨bf, 0, none⟩) 1 1] w fun e w' => e = .panicked [raisedBy n false] ∧ w = w' := by
  have G := Lib.hid (contains1_any bf false w h w (Keeps.refl w []))
  clear h
  go_enter Tryz.func119, Tryz.ntmps119
  go_wp2_with (go_at_call 156; refine G.out.mono ?_; rintro e w5 ⟨rfl, rfl⟩)
  exact ⟨rfl, rfl, rfl⟩
theorem RdI.cut {k : IntKind} {w : World} {A : Option Addr} {n cp : Nat} {l : List Int} (h : RdI k w (.slice A n cp) l) : RdI k w (.slice A n n) l := by
  obtain ⟨⟨a, n', c, he, hn, h1, h2⟩⟩ := h
  injection he with e1 e2 e3
  subst e1 e2 e3
  exact ⟨_, _, _, rfl, hn, (fun h => ⟨(h1 h).1, (h1 h).1⟩), fun h => ⟨Nat.le_refl _, (h2 h).2⟩⟩
theorem Blk.newA {w : World} {cs : Array Value} {T : TypeId} {b : Nat} (h : w.heap.size = b) : Blk (w.alloc (.cells cs T)) b cs T := h ▸ Blk.new w cs T

set_option maxRecDepth 100000 in
set_option maxHeartbeats 2000000 in
theorem cof_yes (A0 : Option Addr) (n cp0 : Nat) (l : List Int) (w : World) (hv : RdI .i64 w (.slice A0 n cp0) l) (hn : l.length ≤ 1000000) (ht : treeL l = true) :
    Calls Tryz.prog 85 #[.slice A0 n cp0] w fun e w' => e = .returned (.agg #[.slice A0 n n]) ∧ Keeps w w' [] := by
  have HR := Lib.hid (fun w' (k : Keeps w w' []) => ht ▸ c_right _ l w' (hv.keeps k) hn)
  have hcap := hv.cap
  obtain ⟨b, o, rfl, -, -⟩ := hv.addr (by
    have := (treeL_iff.1 ht).2.2.1
    have := usedL_len l
    have := hv.len
    omega)
  clear hv hn ht
  go_enter Tryz.func85, Tryz.ntmps85
  go_wp2_with fail
  refine (HR.out _ ((Keeps.refl w []).alloc _)).mono ?_
  rintro e w1 ⟨rfl, rfl⟩
  go_wp2_with (go_at_call 119; refine (cmust_yes _ _ _ (Blk.newA (by simp))).mono ?_; rintro e w5 ⟨rfl, rfl⟩)
  refine bodyPost_ret (v := .agg #[.slice (some ⟨b, o, none⟩) n n]) (by simp only [results, Tryz.results85]; go_simp) rfl ⟨rfl, ?_⟩
  exact ((Keeps.refl w []).alloc _).alloc _

set_option maxRecDepth 100000 in
theorem cof_no (v : Value) (l : List Int) (w : World) (hv : RdI .i64 w v l) (hn : l.length ≤ 1000000) (ht : treeL l = false) :
    Calls Tryz.prog 85 #[v] w fun e w' => e = .panicked [raisedBy 12 false] ∧ Keeps w w' [] := by
  have HR := Lib.hid (fun w' (k : Keeps w w' []) => ht ▸ c_right _ l w' (hv.keeps k) hn)
  obtain ⟨A0, n, cp0, rfl, -, -⟩ := hv.form
  clear hv hn ht
  go_enter Tryz.func85, Tryz.ntmps85
  go_wp2_with fail
  refine (HR.out _ ((Keeps.refl w []).alloc _)).mono ?_
  rintro e w1 ⟨rfl, rfl⟩
  go_wp2_with (go_at_call 119; refine (cmust_no _ _ _ (Blk.newA (by simp))).mono ?_; rintro e w5 ⟨rfl, rfl⟩)
  exact ⟨rfl, rfl, ((Keeps.refl w []).alloc _).alloc _⟩

/-- The deferred function of a call that returns: it does nothing. -/
theorem ccaught_idle (p : Addr) (f : Value) (w : World) :
    CallsD Tryz.prog 82 #[.pointer (some p), f] .returning w fun e u' w' => e = .returned (.tuple #[]) ∧ u' = .returning ∧ w' = w := by
  refine callsD_of_wpS Tryz.func82 rfl fun c₀ cs hu => ?_
  simp only [Tryz.ntmps82, List.size_toArray, List.length_cons, List.length_nil, Nat.reduceAdd, Nat.reduceSub, Array.replicate_succ, Array.replicate_zero, List.push_toArray, List.append_toArray, List.nil_append, List.cons_append]
  apply wpS_seq
  apply wpS_region
  simp [wpOpsS, go_sem, recoverD, hu, Exit.thenS]
  refine wpS_of_wp ?_
  have HU := Lib.hid hu
  clear hu
  go_wp2
  refine ⟨rfl, .returning, ?_, .tuple #[], by simp [results, Tryz.results82], rfl, rfl, rfl⟩
  have hu := HU.out
  cases c₀
  simp_all

set_option maxHeartbeats 600000 in
/-- The deferred function where an error was raised: the result is cleared, the error is laid. -/
theorem ccaught_max (pe po : Nat) (n : Int) (x z : Value) (te tq : TypeId) (older : List PanicEntry) (w : World) (he : Blk w pe #[z] te) (ho : Blk w po #[x] tq) (h1 : pe ≠ po) :
    CallsD Tryz.prog 82 #[.pointer (some ⟨pe, 0, none⟩), .func (.func 83) #[] #[.pointer (some ⟨po, 0, none⟩)]] (.panicking (raisedBy n false :: older)) w fun e u' w' =>
      e = .returned (.tuple #[]) ∧ u' = .panicking (raisedBy n true :: older) ∧ w' = (w.setCell ⟨po, 0, none⟩ (.int .i64 0)).setCell ⟨pe, 0, none⟩ (.int .i64 n) := by
  obtain ⟨c0, f0⟩ := he.one
  obtain ⟨c1, f1⟩ := ho.one
  have hta : ∀ w : World, (Instr.typeAssert (.iface 24 (.int .i64 n)) 20 24 true).run Tryz.prog w = .ok (.tuple #[.int .i64 n, .bool true]) w := fun _ => by kernel_rfl
  have h1' := h1.symm
  refine callsD_of_wpS Tryz.func82 rfl fun c₀ cs hu => ?_
  simp only [Tryz.ntmps82, List.size_toArray, List.length_cons, List.length_nil, Nat.reduceAdd, Nat.reduceSub, Array.replicate_succ, Array.replicate_zero, List.push_toArray, List.append_toArray, List.nil_append, List.cons_append]
  apply wpS_seq
  apply wpS_region
  simp [wpOpsS, go_sem, recoverD, hu, Exit.thenS, raisedBy]
  refine wpS_of_wp ?_
  have HU := Lib.hid hu
  clear hu
  go_wp2
  go_end0
  go_wp2
  refine ⟨rfl, .panicking (raisedBy n true :: older), ?_, .tuple #[], by simp [results, Tryz.results82], rfl, rfl, rfl⟩
  simp [raisedBy]

theorem mxL_take {l : List Int} {k : Nat} {x : Int} (h : l[k]? = some x) : mxL (l.take (k + 1)) = max (mxL (l.take k)) x := by
  rw [take_next h, mxL_snoc]

set_option maxHeartbeats 2000000 in
theorem cmax_any (v : Value) (l : List Int) (w : World) (hv : RdI .i64 w v l) (hn : l.length ≤ 1000000) (h0 : 0 < l.length) (hp : ∀ x ∈ l, 0 ≤ x) :
    Calls Tryz.prog 84 #[v] w fun e w' => e = .returned (.int .i64 (mxL l)) ∧ w = w' := by
  obtain ⟨A0, n, cp0, rfl, hnl, -⟩ := hv.form
  have HV := Lib.hid hv
  have HN := Lib.hid hnl
  have HP := Lib.hid hp
  have hn' : n ≤ 1000000 := by omega
  have hn0 : 0 < n := by omega
  clear hv hnl hn h0 hp
  obtain ⟨x0, hx0⟩ : ∃ x, l[0]? = some x := ⟨_, List.getElem?_eq_getElem (by have := HN.out; omega)⟩
  obtain ⟨b, o, rfl, hb, hc⟩ := HV.out.at hx0
  rw [Nat.add_zero] at hc
  have hcap := HV.out.cap
  have hnI : decide ((n : Int) < 1) = false := decide_eq_false (by omega)
  have H1 : Hid (mxL (l.take 1) = x0) := by
    show _ = _
    have := mxL_take hx0
    simp only [Nat.zero_add, List.take_zero] at this
    have h2 := HP.out x0 (List.mem_of_getElem? hx0)
    rw [this, show mxL [] = 0 from rfl]
    omega
  clear hx0
  go_enter Tryz.func84, Tryz.ntmps84
  go_wp2_with fail
  go_loop [3, 4] (fun m i => ∃ k : Nat, 1 ≤ k ∧ k ≤ n ∧ i = .int .i64 k ∧ m = .int .i64 (mxL (l.take k))) (fun _ i => n - (intOf i).toNat)
  case atStart => exact ⟨1, Nat.le_refl _, by omega, rfl, by rw [H1.out]⟩
  case round =>
    obtain ⟨k, hk1, hk, rfl, rfl⟩ := hrel
    clear hc
    by_cases hlt : k < n
    · obtain ⟨x, hx⟩ : ∃ x, l[k]? = some x := ⟨_, List.getElem?_eq_getElem (by have := HN.out; omega)⟩
      obtain ⟨b', o', hbo, hb, hc⟩ := HV.out.at hx
      obtain ⟨rfl, rfl⟩ : b = b' ∧ o = o' := by simpa using hbo
      clear hbo
      have hkn : (k : Int) < (n : Int) := by omega
      have HM := Lib.hid (mxL_take hx)
      obtain ⟨M, hM⟩ : ∃ M, M = mxL (l.take k) := ⟨_, rfl⟩
      rw [← hM] at HM ⊢
      clear hM hx
      go_wp2_with fail
      go_round
      case rel => exact ⟨k + 1, by omega, by omega, by go_num, by rw [HM.out]; try (congr 1; split <;> omega)⟩
      case measure => simp [intOf]; omega
    · obtain rfl : k = n := by omega
      have e : l.take k = l := List.take_of_length_le (by have := HN.out; omega)
      rw [e]
      go_wp2_with fail
      go_ret
      exact ⟨rfl, rfl⟩

/-- A call returns a number and an error, and leaves the memory that was there. -/
def NumEnd (w : World) (x n : Int) (e : Ending) (w' : World) : Prop := e = .returned (.tuple #[.int .i64 x, .int .i64 n]) ∧ Keeps w w' []

set_option maxRecDepth 100000 in
set_option maxHeartbeats 2000000 in
theorem cmaxLen_no (v : Value) (l : List Int) (w : World) (hv : RdI .i64 w v l) (hn : l.length ≤ 1000000) (ht : treeL l = false) : Calls Tryz.prog 62 #[v] w (NumEnd w 0 12) := by
  have hmf : ∀ (fn : Fn) (first cap : Array Value) (w : World), (Instr.makeFunc fn first cap).run Tryz.prog w = .ok (.func fn first cap) w := fun _ _ _ _ => rfl
  have HO := Lib.hid (fun w' (k : Keeps w w' []) => cof_no v l w' (hv.keeps k) hn ht)
  obtain ⟨A0, n, cp0, rfl, hnl, -⟩ := hv.form
  clear hv hnl ht
  go_enter_defers Tryz.func62, Tryz.ntmps62
  go_wp2_with fail
  have k0 : Keeps w ((w.alloc (.cells #[.int .i64 0] 3)).alloc (.cells #[.int .i64 0] 24)) [] := ((Keeps.refl w []).alloc _).alloc _
  have bo := (Blk.new w #[.int .i64 0] 3).alloc (.cells #[.int .i64 0] 24)
  have be := Blk.new (w.alloc (.cells #[.int .i64 0] 3)) #[.int .i64 0] 24
  simp only [World.size_alloc] at be
  refine (HO.out _ k0).mono ?_
  rintro e w1 ⟨rfl, k1⟩
  replace bo := bo.keeps k1 (by simp)
  replace be := be.keeps k1 (by simp)
  replace k0 := k0.then k1
  clear k1
  obtain ⟨e0, e1⟩ := be.one
  obtain ⟨o0, o1⟩ := bo.one
  go_wp2_with fail
  refine leaves_cons (f := 82) (args := #[.pointer (some ⟨w.heap.size + 1, 0, none⟩), .func (.func 83) #[] #[.pointer (some ⟨w.heap.size, 0, none⟩)]]) (by simp) (by simp [go_sem]) ?_
  refine (ccaught_max _ _ 12 _ _ _ _ [] _ be bo (by omega)).mono ?_
  rintro e u' w'' ⟨rfl, rfl, rfl⟩
  refine ⟨.tuple #[.int .i64 0, .int .i64 12], by simp only [results, Tryz.results62]; go_simp, ?_⟩
  refine ⟨rfl, ?_⟩
  exact Keeps.setCell' (.inl (by dsimp only; omega)) (Keeps.setCell' (.inl (by dsimp only; omega)) k0)

set_option maxRecDepth 100000 in
set_option maxHeartbeats 2000000 in
theorem cmaxLen_yes (v : Value) (l : List Int) (w : World) (hv : RdI .i64 w v l) (hn : l.length ≤ 1000000) (ht : treeL l = true) : Calls Tryz.prog 62 #[v] w (NumEnd w (mxL l) 0) := by
  have hmf : ∀ (fn : Fn) (first cap : Array Value) (w : World), (Instr.makeFunc fn first cap).run Tryz.prog w = .ok (.func fn first cap) w := fun _ _ _ _ => rfl
  obtain ⟨A0, n, cp0, rfl, hnl, -⟩ := hv.form
  have hff : ∀ (u : Value) (w : World), (Instr.field 108 (.agg #[u]) 0).run Tryz.prog w = .ok u w := fun _ _ => rfl
  have HO := Lib.hid (fun w' (k : Keeps w w' []) => cof_yes A0 n cp0 l w' (hv.keeps k) hn ht)
  have HM := Lib.hid (fun w' (k : Keeps w w' []) => cmax_any (.slice A0 n n) l w' ((hv.cut).keeps k) hn (by
      have := (treeL_iff.1 ht).2.2.1
      have := usedL_len l
      omega) (fun x hx => ((treeL_iff.1 ht).2.1 x hx).1))
  clear hv hnl ht
  go_enter_defers Tryz.func62, Tryz.ntmps62
  go_wp2_with fail
  have k0 : Keeps w ((w.alloc (.cells #[.int .i64 0] 3)).alloc (.cells #[.int .i64 0] 24)) [] := ((Keeps.refl w []).alloc _).alloc _
  have bo := (Blk.new w #[.int .i64 0] 3).alloc (.cells #[.int .i64 0] 24)
  have be := Blk.new (w.alloc (.cells #[.int .i64 0] 3)) #[.int .i64 0] 24
  simp only [World.size_alloc] at be
  refine (HO.out _ k0).mono ?_
  rintro e w1 ⟨rfl, k1⟩
  replace bo := bo.keeps k1 (by simp)
  replace be := be.keeps k1 (by simp)
  replace k0 := k0.then k1
  clear k1
  obtain ⟨e0, e1⟩ := be.one
  obtain ⟨o0, o1⟩ := bo.one
  go_wp2_with fail
  refine (HM.out _ k0).mono ?_
  rintro e w3 ⟨rfl, rfl⟩
  go_wp2_with fail
  refine leaves_cons (f := 82) (args := #[.pointer (some ⟨w.heap.size + 1, 0, none⟩), .func (.func 83) #[] #[.pointer (some ⟨w.heap.size, 0, none⟩)]]) (by simp) (by simp [go_sem]) ?_
  refine (ccaught_idle _ _ _).mono ?_
  rintro e u' w'' ⟨rfl, rfl, rfl⟩
  refine ⟨.tuple #[.int .i64 (mxL l), .int .i64 0], by simp only [results, Tryz.results62]; go_simp, ?_⟩
  refine ⟨rfl, ?_⟩
  exact Keeps.setCell' (.inl (by dsimp only; omega)) (Keeps.setCell' (.inl (by dsimp only; omega)) k0)
end

section
set_option linter.unusedVariables false
set_option linter.unusedSimpArgs false
open Go.RowKit

/-! ### The last positive number -/
def lastF : Nat → Nat → List Int → Nat
  | m, _, [] => m
  | m, i, x :: l => lastF (if 0 < x then i else m) (i + 1) l
def lastU (l : List Int) : Nat := lastF 0 0 l
theorem lastF_snoc (m i : Nat) (l : List Int) (x : Int) : lastF m i (l ++ [x]) = if 0 < x then i + l.length else lastF m i l := by
  induction l generalizing m i with
  | nil => simp [lastF]
  | cons y l ih =>
    simp only [List.cons_append, lastF, ih, List.length_cons]
    split <;> first | omega | rfl
theorem lastU_snoc (l : List Int) (x : Int) : lastU (l ++ [x]) = if 0 < x then l.length else lastU l := by
  rw [lastU, lastF_snoc, Nat.zero_add]; rfl
theorem lastU_take {l : List Int} {k : Nat} {x : Int} (h : l[k]? = some x) : lastU (l.take (k + 1)) = if 0 < x then k else lastU (l.take k) := by
  have hk : (l.take k).length = k := by have := (List.getElem?_eq_some_iff.1 h).1; simp; omega
  rw [take_next h, lastU_snoc, hk]
theorem lastU_le (l : List Int) : lastU l ≤ l.length - 1 := by
  suffices h : ∀ k, lastU (l.take k) ≤ (l.take k).length - 1 by
    have := h l.length
    rw [List.take_length] at this; exact this
  intro k
  induction k with
  | zero => simp [lastU, lastF]
  | succ k ih =>
    cases h : l[k]? with
    | none =>
      have hl := List.getElem?_eq_none_iff.1 h
      rw [List.take_of_length_le (show l.length ≤ k + 1 by omega)]
      rw [List.take_of_length_le hl] at ih
      exact ih
    | some x =>
      have := (List.getElem?_eq_some_iff.1 h).1
      rw [lastU_take h]
      simp only [List.length_take] at ih ⊢
      split <;> omega

/-! ### Weights of a tree -/
def wgt (k x : Int) : Int := if 0 < x then k + 1 - x else 0
def wOf (l : List Int) : List Int := (l.map (wgt (mxL l))).take (lastU l)
def fillL (f : Int → Int) (l : List Int) (k : Nat) : List Int := (l.take k).map f ++ List.replicate (l.length - k) 0
theorem fillL_zero (f : Int → Int) (l : List Int) : fillL f l 0 = List.replicate l.length 0 := by simp [fillL]
theorem fillL_all (f : Int → Int) {l : List Int} {k : Nat} (h : l.length ≤ k) : fillL f l k = l.map f := by
  simp [fillL, List.take_of_length_le h, show l.length - k = 0 by omega]
theorem fillL_len (f : Int → Int) {l : List Int} {k : Nat} (h : k ≤ l.length) : (fillL f l k).length = l.length := by simp [fillL]; omega
theorem fillL_set {f : Int → Int} {l : List Int} {k : Nat} {x : Int} (h : l[k]? = some x) : (fillL f l k).set k (f x) = fillL f l (k + 1) := by
  have hk := (List.getElem?_eq_some_iff.1 h).1
  have hl : ((l.take k).map f).length = k := by simp; omega
  unfold fillL
  rw [List.set_append_right _ _ (by omega), hl, Nat.sub_self, take_next h, show l.length - k = (l.length - (k + 1)) + 1 by omega, List.replicate_succ, List.set_cons_zero]
  simp
theorem fillL_same {f : Int → Int} {l : List Int} {k : Nat} {x : Int} (h : l[k]? = some x) (h0 : f x = 0) : fillL f l (k + 1) = fillL f l k := by
  rw [← fillL_set h, h0]
  have hk := (List.getElem?_eq_some_iff.1 h).1
  have hl : ((l.take k).map f).length = k := by simp; omega
  unfold fillL
  rw [List.set_append_right _ _ (by omega), hl, Nat.sub_self, show l.length - k = (l.length - (k + 1)) + 1 by omega, List.replicate_succ, List.set_cons_zero]

/-! ### The tree of weights -/
def sumW : List Int → Nat
  | [] => 0
  | x :: l => (if 0 < x then 2 ^ (x.toNat - 1) else 0) + sumW l
theorem sumW_append (a b : List Int) : sumW (a ++ b) = sumW a + sumW b := by
  induction a with
  | nil => simp [sumW]
  | cons x a ih => simp only [List.cons_append, sumW, ih]; omega
theorem sumW_snoc (l : List Int) (x : Int) : sumW (l ++ [x]) = sumW l + (if 0 < x then 2 ^ (x.toNat - 1) else 0) := by
  rw [sumW_append]; simp [sumW]
theorem sumW_take {l : List Int} {k : Nat} {x : Int} (h : l[k]? = some x) : sumW (l.take (k + 1)) = sumW (l.take k) + (if 0 < x then 2 ^ (x.toNat - 1) else 0) := by
  rw [take_next h, sumW_snoc]
theorem sumW_le {l : List Int} (h : l.all (finM 11) = true) : sumW l ≤ 1024 * l.length := by
  induction l with
  | nil => simp [sumW]
  | cons x l ih =>
    simp only [List.all_cons, Bool.and_eq_true] at h
    have h1 := ih h.2
    have h2 := finM_iff.1 h.1
    simp only [sumW, List.length_cons]
    split
    · have : 2 ^ (x.toNat - 1) ≤ 2 ^ 10 := Nat.pow_le_pow_right (by decide) (by omega)
      omega
    · omega
def lenW (w : List Int) : Bool := decide (0 < w.length) && decide (w.length < 256)
def kW (w : List Int) : Nat := Go.Lib.bitLen (sumW w)
def restW (w : List Int) : Nat := 2 ^ kW w - sumW w
def vW (w : List Int) : Nat := Go.Lib.bitLen (restW w)
def okW (w : List Int) : Bool := ((lenW w && w.all (finM 11)) && (decide (0 < sumW w) && (decide (kW w ≤ 11) && decide (restW w = 2 ^ (vW w - 1))))) && (w ++ [(vW w : Int)]).contains 1
def trL (k : Nat) (l : List Int) : List Int := l.map (wgt k)
def tOf (w : List Int) : List Int := trL (kW w) (w ++ [(vW w : Int)])

theorem bitLen_zero : Go.Lib.bitLen 0 = 0 := rfl
theorem bitLen_le {n k : Nat} (hn : n < 18446744073709551616) : k < Go.Lib.bitLen n ↔ 2 ^ k ≤ n := by
  rcases Nat.eq_zero_or_pos n with rfl | h0
  · rw [bitLen_zero]
    have := Nat.two_pow_pos k
    omega
  · rw [bitLen_log h0 hn, ← Nat.le_log2 (by omega)]
    omega
theorem bitLen_lt {n : Nat} (hn : n < 18446744073709551616) : n < 2 ^ Go.Lib.bitLen n := by
  have := (bitLen_le (k := Go.Lib.bitLen n) hn)
  omega
theorem bitLen_top {n k : Nat} (hn : n < 18446744073709551616) (h : n < 2 ^ k) : Go.Lib.bitLen n ≤ k := by
  have := (bitLen_le (k := k) hn)
  omega

/-- What follows from the length and the size of the numbers alone. -/
theorem sums {w : List Int} (h1 : lenW w = true) (h2 : w.all (finM 11) = true) : sumW w ≤ 262144 ∧ kW w ≤ 19 ∧ sumW w < 2 ^ kW w ∧ 2 ^ kW w ≤ 524288 ∧ 0 < restW w ∧ restW w ≤ 524288 ∧ restW w + sumW w = 2 ^ kW w ∧ 0 < vW w ∧ vW w ≤ 20 := by
  have hs := sumW_le h2
  have hl : w.length < 256 := by simp [lenW] at h1; exact h1.2
  have e1 : (2 : Nat) ^ 19 = 524288 := by decide
  have e2 : (2 : Nat) ^ 20 = 1048576 := by decide
  have a1 : sumW w ≤ 262144 := by omega
  have a2 : kW w ≤ 19 := bitLen_top (by omega) (by omega)
  have a3 : sumW w < 2 ^ kW w := bitLen_lt (by omega)
  have a4 : 2 ^ kW w ≤ 2 ^ 19 := Nat.pow_le_pow_right (by decide) a2
  have a5 : restW w + sumW w = 2 ^ kW w := by unfold restW; omega
  refine ⟨a1, a2, a3, by omega, by omega, by omega, a5, ?_, bitLen_top (by omega) (by omega)⟩
  have := (bitLen_le (n := restW w) (k := 0) (by omega)).2 (by rw [Nat.pow_zero]; omega)
  exact this
end

section
set_option linter.unusedVariables false
set_option linter.unusedSimpArgs false
set_option linter.unusedSectionVars false
open Go.RowKit

/-- The slice lies behind the memory that was there. -/
def Fresh (base : Nat) (v : Value) : Prop := ∀ ad n c, v = .slice (some ad) n c → base ≤ ad.block
theorem Fresh.nil {b : Nat} : Fresh b (.slice none 0 0) := fun _ _ _ h => by cases h
theorem Fresh.mono {b b' : Nat} {v : Value} (h : Fresh b v) (hb : b' ≤ b) : Fresh b' v := fun ad n c e => Nat.le_trans hb (h ad n c e)

theorem wis_yes {b : Bool} (h : b = true) (n : Int) (w : World) : Calls Tryz.prog 54 #[.bool b, .int .i64 n] w fun e w' => e = .returned (.tuple #[]) ∧ w = w' := by
  subst h
  go_enter Tryz.func54, Tryz.ntmps54
  go_wp2
  go_end0
  exact ⟨rfl, rfl⟩
theorem wis_no {b : Bool} (h : b = false) (n : Int) (w : World) : Calls Tryz.prog 54 #[.bool b, .int .i64 n] w fun e w' => e = .panicked [raisedBy n false] ∧ w = w' := by
  subst h
  go_enter Tryz.func54, Tryz.ntmps54
  go_wp2
  exact ⟨rfl, rfl, rfl⟩
theorem wmust_yes (bf : Nat) (w : World) (h : Blk w bf #[.int .i64 0] 24) : Calls Tryz.prog 63 #[.slice (some ⟨bf, 0, none⟩) 1 1] w fun e w' => e = .returned (.tuple #[]) ∧ w = w' := by
  obtain ⟨c0, -⟩ := h.one
  go_enter Tryz.func63, Tryz.ntmps63
  go_wp2_with fail
  refine wp_loop_rounds 2 ?_
  rw [rounds_succ]
  go_wp2_with fail
  rw [rounds_succ]
  go_wp2_with fail
  go_end0
  exact ⟨rfl, rfl⟩
theorem wmust_no (n : Int) (hn : n ≠ 0) (bf : Nat) (w : World) (h : Blk w bf #[.int .i64 n] 24) : Calls Tryz.prog 63 #[.slice (some ⟨bf, 0, none⟩) 1 1] w fun e w' => e = .panicked [raisedBy n false] ∧ w = w' := by
  obtain ⟨c0, -⟩ := h.one
  go_enter Tryz.func63, Tryz.ntmps63
  go_wp2_with fail
  refine wp_loop_rounds 1 ?_
  rw [rounds_succ]
  go_wp2_with fail
  exact ⟨rfl, rfl, rfl⟩

/-- The deferred function of a call that returns: it does nothing. -/
theorem wcaught_idle (p : Addr) (f : Value) (w : World) :
    CallsD Tryz.prog 35 #[.pointer (some p), f] .returning w fun e u' w' => e = .returned (.tuple #[]) ∧ u' = .returning ∧ w' = w := by
  refine callsD_of_wpS Tryz.func35 rfl fun c₀ cs hu => ?_
  simp only [Tryz.ntmps35, List.size_toArray, List.length_cons, List.length_nil, Nat.reduceAdd, Nat.reduceSub, Array.replicate_succ, Array.replicate_zero, List.push_toArray, List.append_toArray, List.nil_append, List.cons_append]
  apply wpS_seq
  apply wpS_region
  simp [wpOpsS, go_sem, recoverD, hu, Exit.thenS]
  refine wpS_of_wp ?_
  have HU := Lib.hid hu
  clear hu
  go_wp2
  refine ⟨rfl, .returning, ?_, .tuple #[], by simp [results, Tryz.results35], rfl, rfl, rfl⟩
  have hu := HU.out
  cases c₀
  simp_all

set_option maxHeartbeats 600000 in
/-- The deferred function where an error was raised: the result is cleared, the error is laid. -/
theorem wcaught_dec (pe po : Nat) (n : Int) (x z : Value) (te tq : TypeId) (older : List PanicEntry) (w : World) (he : Blk w pe #[z] te) (ho : Blk w po #[x] tq) (h1 : pe ≠ po) :
    CallsD Tryz.prog 35 #[.pointer (some ⟨pe, 0, none⟩), .func (.func 52) #[] #[.pointer (some ⟨po, 0, none⟩)]] (.panicking (raisedBy n false :: older)) w fun e u' w' =>
      e = .returned (.tuple #[]) ∧ u' = .panicking (raisedBy n true :: older) ∧ w' = (w.setCell ⟨po, 0, none⟩ (.slice none 0 0)).setCell ⟨pe, 0, none⟩ (.int .i64 n) := by
  obtain ⟨c0, f0⟩ := he.one
  obtain ⟨c1, f1⟩ := ho.one
  have hta : ∀ w : World, (Instr.typeAssert (.iface 24 (.int .i64 n)) 20 24 true).run Tryz.prog w = .ok (.tuple #[.int .i64 n, .bool true]) w := fun _ => by kernel_rfl
  have h1' := h1.symm
  refine callsD_of_wpS Tryz.func35 rfl fun c₀ cs hu => ?_
  simp only [Tryz.ntmps35, List.size_toArray, List.length_cons, List.length_nil, Nat.reduceAdd, Nat.reduceSub, Array.replicate_succ, Array.replicate_zero, List.push_toArray, List.append_toArray, List.nil_append, List.cons_append]
  apply wpS_seq
  apply wpS_region
  simp [wpOpsS, go_sem, recoverD, hu, Exit.thenS, raisedBy]
  refine wpS_of_wp ?_
  have HU := Lib.hid hu
  clear hu
  go_wp2
  go_end0
  go_wp2
  refine ⟨rfl, .panicking (raisedBy n true :: older), ?_, .tuple #[], by simp [results, Tryz.results35], rfl, rfl, rfl⟩
  simp [raisedBy]

theorem ints_reads {w : World} {B m : Nat} {h : List Int} {T : TypeId} (hb : Blk w B (ints h) T) (hm : m ≤ h.length) : RdI .i64 w (.slice (some ⟨B, 0, none⟩) m m) (h.take m) :=
  ⟨_, _, _, rfl, by simp; omega, (fun h => by cases h), fun h0 => ⟨Nat.le_refl _, B, 0, rfl, hb.lt, fun i x hx => by
    rw [List.getElem?_take] at hx
    split at hx
    · rw [Nat.zero_add, hb.cell, ints_get hx]
    · cases hx⟩⟩
theorem Tryz.infoInt : (Tryz.prog.info? 3).map (fun i => (i.zero, i.size, i.bytes)) = some (some (.int .i64 0), 1, 8) := by kernel_rfl
theorem make_ints (n : Nat) (hn : n ≤ 1000000) (w : World) : (Instr.makeSlice 22 (.int .i64 (n : Int)) (.int .i64 (n : Int))).run Tryz.prog w = .ok (.slice (some ⟨w.heap.size, 0, none⟩) n n) (w.alloc (.cells (ints (List.replicate n 0)) 3)) := by
  obtain ⟨i0, hi, hz0, hz1, hz2⟩ := info_parts Tryz.infoInt
  have hr := run_make (P := Tryz.prog) w 22 3 i0 (.int .i64 0) Tryz.underlying22 hi hz0 .i64 .i64 n n (by omega) (Int.le_refl _) (by rw [hz2]; omega) (by omega)
  simp only [Int.toNat_natCast] at hr
  rw [hr]
  have e : (madeCells (Value.int .i64 0).cells (n * i0.size)) = ints (List.replicate n 0) := by
    rw [hz1, Nat.mul_one]
    apply Array.toList_inj.1
    exact (toList_madeCells_one _ n).trans (by simp [ints])
  rw [e]

set_option maxRecDepth 100000 in
set_option maxHeartbeats 2000000 in
theorem wof_yes (v : Value) (l : List Int) (w : World) (hv : RdI .i64 w v l) (hn : l.length ≤ 1000000) (ht : treeL l = true) :
    Calls Tryz.prog 37 #[v] w fun e w' => ∃ v', e = .returned v' ∧ RdI .i64 w' v' (wOf l) ∧ Fresh w.heap.size v' ∧ Keeps w w' [] := by
  have HML := Lib.hid (fun w' (k : Keeps w w' []) => cmaxLen_yes v l w' (hv.keeps k) hn ht)
  have HV := Lib.hid hv
  obtain ⟨A0, n, cp0, rfl, hnl, -⟩ := hv.form
  have HN := Lib.hid hnl
  have hn' : n ≤ 256 := by have := (treeL_iff.1 ht).1; omega
  have HB := Lib.hid (fun x hx => (treeL_iff.1 ht).2.1 x hx)
  have hM0 := mxL_nonneg l
  have hM1 : mxL l ≤ 11 := mxL_le (by omega) (fun x hx => (HB.out x hx).2)
  have HE : Hid (wOf l = (fillL (wgt (mxL l)) l n).take (lastU (l.take n))) := by
    show _ = _
    rw [wOf, fillL_all _ (by omega), List.take_of_length_le (show l.length ≤ n by omega)]
  have HFL : Hid (∀ k, k ≤ n → (fillL (wgt (mxL l)) l k).length = n) := fun k hk => by rw [fillL_len _ (by have := HN.out; omega), HN.out]
  have hlast : lastU (l.take n) ≤ n := by have := lastU_le (l.take n); simp at this; omega
  have HST : Hid (∀ k x, l[k]? = some x → 0 < x → (fillL (wgt (mxL l)) l k).set k (mxL l + 1 - x) = fillL (wgt (mxL l)) l (k + 1)) := fun k x hx h0 => by
    have := fillL_set (f := wgt (mxL l)) hx
    rw [← this, wgt, if_pos h0]
  have HSN : Hid (∀ k x, l[k]? = some x → ¬ 0 < x → fillL (wgt (mxL l)) l (k + 1) = fillL (wgt (mxL l)) l k) := fun k x hx h0 => fillL_same hx (by rw [wgt, if_neg h0])
  have HZ : Hid (fillL (wgt (mxL l)) l 0 = List.replicate n 0) := by show _ = _; rw [fillL_zero, HN.out]
  generalize wgt (mxL l) = F at *
  obtain ⟨M, hM⟩ : ∃ M, M = mxL l := ⟨_, rfl⟩
  rw [← hM] at hM0 hM1 HST HML
  have hmk : ∀ w, (Instr.makeSlice 22 (.int .i64 (n : Int)) (.int .i64 (n : Int))).run Tryz.prog w = .ok (.slice (some ⟨w.heap.size, 0, none⟩) n n) (w.alloc (.cells (ints (List.replicate n 0)) 3)) := make_ints n (by omega)
  clear hv hnl hn ht hM
  go_enter Tryz.func37, Tryz.ntmps37
  go_wp2_with fail
  refine (HML.out _ (Keeps.refl w [])).mono ?_
  rintro e w1 ⟨rfl, k1⟩
  go_wp2_with (go_at_call 63; refine (wmust_yes _ _ (Blk.newA rfl)).mono ?_; rintro e w5 ⟨rfl, rfl⟩)
  have b0 := Blk.new (w1.alloc (.cells #[.int .i64 0] 24)) (ints (List.replicate n 0)) 3
  have k0 := ((k1.alloc (.cells #[.int .i64 0] 24)).alloc (.cells (ints (List.replicate n 0)) 3))
  simp only [World.size_alloc] at b0
  rw [← HZ.out] at b0 k0 ⊢
  obtain ⟨G, hG⟩ : ∃ G, G = w1.heap.size + 1 := ⟨_, rfl⟩
  rw [← hG] at b0 ⊢
  have hGw : w.heap.size ≤ G := by have := k1.size; omega
  clear hG HML k1
  generalize (w1.alloc (.cells #[.int .i64 0] 24)).alloc (.cells (ints (fillL F l 0)) 3) = w2 at *
  have HF0 := Lib.hid hmk
  clear hmk
  go_loopw [6, 22] (fun m i wr => ∃ k : Nat, k ≤ n ∧ i = .int .i64 k ∧ m = .int .i64 (lastU (l.take k) : Nat) ∧ Blk wr G (ints (fillL F l k)) 3 ∧ Keeps w wr []) (fun _ i _ => n - (intOf i).toNat)
  case atStart => exact ⟨0, Nat.zero_le _, rfl, rfl, b0, k0⟩
  case round =>
    clear b0 k0
    obtain ⟨k, hk, rfl, rfl, bk, kk⟩ := hrel
    by_cases hlt : k < n
    · obtain ⟨x, hx⟩ : ∃ x, l[k]? = some x := ⟨_, List.getElem?_eq_getElem (by have := HN.out; omega)⟩
      obtain ⟨b, o, rfl, hb, hc⟩ := HV.out.at hx
      have hc' := (kk.cell (p := ⟨b, o + k, none⟩) hb (by simp)).trans hc
      have hcap := HV.out.cap
      have hxb := HB.out x (List.mem_of_getElem? hx)
      have hkn : (k : Int) < (n : Int) := by omega
      have HLU := Lib.hid (lastU_take hx)
      have hlb := HFL.out k (by omega)
      obtain ⟨y, hy⟩ : ∃ y, (fillL F l k)[k]? = some y := ⟨_, List.getElem?_eq_getElem (by omega)⟩
      have hbc := (bk.cell k).trans (ints_get hy)
      have hbf := bk.frozen k
      have hGl := bk.lt
      have hst := Lib.hid (HST.out k x hx)
      have hsn := Lib.hid (HSN.out k x hx)
      have bset : ∀ y : Int, Blk (wr.setCell ⟨G, k, none⟩ (.int .i64 y)) G (ints ((fillL F l k).set k y)) 3 := fun y => by rw [← ints_set]; exact bk.set k (.int .i64 y)
      generalize lastU (l.take k) = U at *
      clear hx hc hy hlb
      by_cases h0 : 0 < x
      · go_wp2_with fail
        go_roundw
        case rel => exact ⟨k + 1, by omega, by go_num, by rw [HLU.out, if_pos h0], by rw [← hst.out h0]; exact bset _, kk.setCell (.inl (by dsimp only; omega)) _⟩
        case measure => simp [intOf]; omega
      · have d0 : decide (0 < x) = false := decide_eq_false h0
        go_wp2_with fail
        go_roundw
        case rel => exact ⟨k + 1, by omega, by go_num, by rw [HLU.out, if_neg h0], by rw [hsn.out (by omega)]; exact bk, kk⟩
        case measure => simp [intOf]; omega
    · obtain rfl : k = n := by omega
      have HR := Lib.hid (ints_reads bk (m := lastU (l.take k)) (by rw [HFL.out k (by omega)]; exact hlast))
      rw [← HE.out] at HR
      clear bk
      generalize lastU (l.take k) = U at *
      go_wp2_with fail
      go_ret
      exact ⟨_, rfl, HR.out, (fun ad m c he => by cases he; exact hGw), kk⟩

set_option maxRecDepth 100000 in
theorem wof_no (v : Value) (l : List Int) (w : World) (hv : RdI .i64 w v l) (hn : l.length ≤ 1000000) (ht : treeL l = false) :
    Calls Tryz.prog 37 #[v] w fun e w' => e = .panicked [raisedBy 12 false] ∧ Keeps w w' [] := by
  have HML := Lib.hid (fun w' (k : Keeps w w' []) => cmaxLen_no v l w' (hv.keeps k) hn ht)
  obtain ⟨A0, n, cp0, rfl, -, -⟩ := hv.form
  clear hv hn ht
  go_enter Tryz.func37, Tryz.ntmps37
  go_wp2_with fail
  refine (HML.out _ (Keeps.refl w [])).mono ?_
  rintro e w1 ⟨rfl, k1⟩
  go_wp2_with (go_at_call 63; refine (wmust_no 12 (by decide) _ _ (Blk.newA rfl)).mono ?_; rintro e w5 ⟨rfl, rfl⟩)
  exact ⟨rfl, rfl, k1.alloc _⟩

/-- A call returns a list and an error, and leaves the memory that was there. -/
def LsEnd (w : World) (l : List Int) (n : Int) (e : Ending) (w' : World) : Prop := ∃ v, e = .returned (.tuple #[v, .int .i64 n]) ∧ RdI .i64 w' v l ∧ Fresh w.heap.size v ∧ Keeps w w' []
end

section
set_option linter.unusedVariables false
set_option linter.unusedSimpArgs false
set_option linter.unusedSectionVars false
open Go.RowKit

/-- The length of a slice. -/
def lenV : Value → Nat
  | .slice _ n _ => n
  | _ => 0
/-- What is known of the zeros behind the norms out when n of them are laid. -/
def NoDone (w : World) (Q R g : Nat) (B : List Int) (out : List Int) (n : Nat) (Z : Except Int (List Int × List Bool)) : Prop :=
  match Z with
    | .ok (o, L2) => o = out ++ List.replicate n 0 ∧ ∃ p', L2 = (rowBits B).drop p' ∧ p' ≤ 8 * B.length ∧ DR w Q R g B p' 0
    | .error e => e ≠ 0 ∧ ∃ p', DR w Q R g B p' e
theorem NoDone.old {w w' : World} {Q R g n N : Nat} {B out : List Int} {Z : Except Int (List Int × List Bool)} {S : List Nat} (h : NoDone w Q R g B out n Z) (k : Keeps w w' S) (hQ : Q < N) (hR : R < N) (hg : 0 < B.length → g < N) (hS : ∀ x ∈ S, N ≤ x) : NoDone w' Q R g B out n Z := by
  cases Z with
  | ok z => obtain ⟨h1, p', h2, h3, h4⟩ := h; exact ⟨h1, p', h2, h3, h4.old k hQ hR hg hS⟩
  | error e => obtain ⟨h1, p', h4⟩ := h; exact ⟨h1, p', h4.old k hQ hR hg hS⟩
/-- How noughts ends. -/
def NoEnd (w : World) (Q R g : Nat) (B : List Int) (out : List Int) (Z : Except Int (List Int × List Bool)) (e : Ending) (w' : World) : Prop :=
  ∃ n a c, e = .returned (.slice a n c) ∧ w'.ownsRow w.heap.size 3 1 (.slice a n c) n ((List.replicate n (0 : Int)).map (.int .i64)) ∧ n ≤ 1000 ∧ NoDone w' Q R g B out n Z ∧ Keeps w w' [Q, R]

theorem own_old {w w' : World} {base : Nat} {e : TypeId} {size n : Nat} {v : Value} {xs : List Value} {S : List Nat} (h : w.ownsRow base e size v n xs) (k : Keeps w w' S) (hn : ∀ x, v.ownBlock = some x → x ∉ S) : w'.ownsRow base e size v n xs := by
  refine ⟨h.1, ?_⟩
  rcases h.2 with h2 | ⟨g, cp, cur, rfl, hg, hb, r⟩
  · exact .inl h2
  · exact .inr ⟨g, cp, cur, rfl, hg, (k.block g (Array.getElem?_eq_some_iff.1 hb).1 (hn g rfl)).trans hb, r⟩
theorem rep_map (n : Nat) : (List.replicate n (0 : Int)).map (Value.int .i64) = List.replicate n (.int .i64 0) := by simp
theorem rep_snoc (n k : Nat) : List.replicate n (Value.int .i64 0) ++ List.replicate k (.int .i64 0) = List.replicate (n + k) (.int .i64 0) := by simp

set_option maxRecDepth 100000 in
set_option maxHeartbeats 4000000 in
theorem noughts_any (Q R g p room : Nat) (B out : List Int) (w : World) (h : DR w Q R g B p 0) (hr : room ≤ 256) :
    Calls Tryz.prog 132 #[.pointer (some ⟨Q, 0, none⟩), .int .i64 room, takeV Q] w (NoEnd w Q R g B out (zerosP (out.length + room) (out.length + room + 1) ((rowBits B).drop p) out)) := by
  obtain ⟨i0, hi, hz0, hz1, hz2⟩ := info_parts Tryz.infoInt
  obtain ⟨Z, hZ⟩ : ∃ Z, zerosP (out.length + room) (out.length + room + 1) ((rowBits B).drop p) out = Z := ⟨_, rfl⟩
  rw [hZ]
  have HZ := Lib.hid hZ
  have HH := Lib.hid h
  obtain ⟨lQ, lR, lg⟩ := h.lt
  have LG := Lib.hid lg
  have hp := h.rd.hab
  clear h hZ lg
  go_enter Tryz.func132, Tryz.ntmps132
  go_wp2_with fail
  go_loopw [6, 7] (fun s6 s7 wr => ∃ (n c k : Nat) (a : Option Addr), s6 = .slice a n c ∧ s7 = .int .i64 (k : Int) ∧ k ≤ 3 ∧ n ≤ room + 3 ∧ wr.ownsRow w.heap.size 3 1 (.slice a n c) n (List.replicate n (.int .i64 0)) ∧ Keeps w wr [Q, R] ∧
      ((k = 3 ∧ ∃ p' f, p' ≤ 8 * B.length ∧ DR wr Q R g B p' 0 ∧ 1 ≤ f ∧ room + 1 ≤ f + n ∧ Hid (zerosP (out.length + room) f ((rowBits B).drop p') (out ++ List.replicate n 0) = Z)) ∨ (k ≠ 3 ∧ NoDone wr Q R g B out n Z)))
    (fun s6 s7 _ => 2 * (room + 3 - lenV s6) + (intOf s7).toNat / 3)
  case atStart => exact ⟨0, 0, 3, none, rfl, rfl, by omega, by omega, World.ownsRow_nil _ _ _ _, Keeps.refl _ _, .inl ⟨rfl, p, out.length + room + 1, hp, HH.out, by omega, by omega, by simpa using HZ⟩⟩
  case round =>
    obtain ⟨n, c, k, a, rfl, rfl, hk3, hn, own, kk, hcase⟩ := hrel
    rcases hcase with ⟨rfl, p', f, hp', hd, hf1, hf, hz⟩ | ⟨hk, hdone⟩
    · obtain ⟨f', rfl⟩ : ∃ f', f = f' + 1 := ⟨f - 1, by omega⟩
      have HD := Lib.hid hd
      have OW := Lib.hid own
      have hs := kk.size
      have hL : (out ++ List.replicate n (0 : Int)).length = out.length + n := by simp
      unfold zerosP at hz
      by_cases hroom : n < room
      · have hr1 : (n : Int) < (room : Int) := by omega
        have hz1 := hz.out
        rw [if_neg (by rw [hL]; omega)] at hz1
        clear hz hd own
        have HM := Lib.hid (must_true Q R g p' B 13 wr HD.out)
        by_cases hA : p' + 2 ≤ 8 * B.length
        · rw [tk_drop hA] at hz1
          simp only at hz1
          have HT := Lib.hid (take_ok Q R g p' 2 B wr HD.out hA (by omega))
          have hv := bitsAt_lt B p' 2
          obtain ⟨k2, hk2⟩ : ∃ k2, bitsAt B p' 2 = k2 := ⟨_, rfl⟩
          rw [hk2] at HT hz1 hv
          rw [List.append_assoc, List.replicate_append_replicate] at hz1
          have HZ1 := Lib.hid hz1
          have hk3' : k2 ≤ 3 := by omega
          clear hz1 hv hk2
          go_wp2_with (go_at_call 130; go_loud (refine HM.out.mono ?_; rintro e w1 ⟨rfl, rfl⟩))
          refine HT.out.mono ?_
          rintro e w2 ⟨rfl, d2, k2'⟩
          have OW2 := Lib.hid (own_old OW.out k2' (fun x hx hm => by have := List.mem_singleton.1 hm; have := (OW.out.lt x hx).1; omega))
          have hs2 := k2'.size
          have HD2 := Lib.hid d2
          have kk2 : Keeps w w2 [Q, R] := kk.trans k2' (fun j hj _ => by have := List.mem_singleton.1 hj; simp [this])
          clear d2 k2'
          go_wp2_with (at_builtin; go_loud (refine wpList_append_zeros rfl _ _ 22 3 rfl w.heap.size 3 i0 (.int .i64 0) .i64 .i64 8 Tryz.underlying22 Tryz.underlying3 hi hz0 hz1 hz2 rfl rfl (.slice a n c) n _ rfl OW2.out k2 rfl (by unfold maxLen; omega) (by omega) (by omega) ?_; intro a3 c3 w3 own3 k3))
          have HD3 := Lib.hid (HD2.out.old k3 lQ lR LG.out (fun x hx => by
            cases a with
            | none => simp [Value.ownBlock] at hx
            | some ad => simp [Value.ownBlock] at hx; subst hx; exact (OW.out.lt _ rfl).1))
          have kk3 : Keeps w w3 [Q, R] := kk2.trans k3 (fun j hj hl => by
            cases a with
            | none => simp [Value.ownBlock] at hj
            | some ad => simp [Value.ownBlock] at hj; subst hj; have := (OW.out.lt _ rfl).1; omega)
          rw [rep_snoc] at own3
          have OW3 := Lib.hid own3
          clear own3 k3
          go_roundw
          case rel =>
            refine ⟨n + k2, c3, k2, a3, rfl, rfl, hk3', by omega, OW3.out, kk3, ?_⟩
            by_cases h3 : k2 = 3
            · subst h3
              have := HZ1.out
              rw [if_pos rfl] at this
              exact .inl ⟨rfl, p' + 2, f', by omega, HD3.out, by omega, by omega, this⟩
            · have := HZ1.out
              rw [if_neg h3] at this
              subst this
              exact .inr ⟨h3, rfl, p' + 2, rfl, by omega, HD3.out⟩
          case measure =>
            simp only [lenV, intOf]
            omega
        · rw [tk_short (by omega) (by omega)] at hz1
          simp only at hz1
          have HT := Lib.hid (take_no Q R g p' 2 B wr HD.out (by omega) (by omega))
          have HZ1 := Lib.hid hz1
          clear hz1
          go_wp2_with (go_at_call 130; go_loud (refine HM.out.mono ?_; rintro e w1 ⟨rfl, rfl⟩))
          refine HT.out.mono ?_
          rintro e w2 ⟨rfl, d2, k2'⟩
          have OW2 := Lib.hid (own_old OW.out k2' (fun x hx hm => by have := List.mem_singleton.1 hm; have := (OW.out.lt x hx).1; omega))
          have hs2 := k2'.size
          have HD2 := Lib.hid d2
          have kk2 : Keeps w w2 [Q, R] := kk.trans k2' (fun j hj _ => by have := List.mem_singleton.1 hj; simp [this])
          clear d2 k2'
          go_wp2_with (at_builtin; go_loud (refine wpList_append_zeros rfl _ _ 22 3 rfl w.heap.size 3 i0 (.int .i64 0) .i64 .i64 8 Tryz.underlying22 Tryz.underlying3 hi hz0 hz1 hz2 rfl rfl (.slice a n c) n _ rfl OW2.out 0 rfl (by unfold maxLen; omega) (by omega) (by omega) ?_; intro a3 c3 w3 own3 k3))
          have HD3 := Lib.hid (HD2.out.old k3 lQ lR LG.out (fun x hx => by
            cases a with
            | none => simp [Value.ownBlock] at hx
            | some ad => simp [Value.ownBlock] at hx; subst hx; exact (OW.out.lt _ rfl).1))
          have kk3 : Keeps w w3 [Q, R] := kk2.trans k3 (fun j hj hl => by
            cases a with
            | none => simp [Value.ownBlock] at hj
            | some ad => simp [Value.ownBlock] at hj; subst hj; have := (OW.out.lt _ rfl).1; omega)
          rw [rep_snoc] at own3
          have OW3 := Lib.hid own3
          clear own3 k3
          go_roundw
          case rel =>
            refine ⟨n, c3, 0, a3, rfl, rfl, by omega, by omega, OW3.out, kk3, .inr ⟨by omega, ?_⟩⟩
            rw [← HZ1.out]
            exact ⟨by decide, p', HD3.out⟩
          case measure =>
            simp only [lenV, intOf]
            omega
      · have hr1 : decide (n < room) = false := decide_eq_false (by omega)
        have hr2 : decide ((n : Int) < (room : Int)) = false := decide_eq_false (by omega)
        have hz1 := hz.out
        rw [if_pos (by rw [hL]; omega)] at hz1
        have HZ1 := Lib.hid hz1
        have HM := Lib.hid (must_no Q R g p' B 13 (by decide) wr HD.out)
        clear hz1 hz hd own
        go_wp2_with (go_at_call 130; go_loud (refine HM.out.mono ?_; rintro e w1 ⟨rfl, d1, k1⟩))
        go_ret
        have hsp := own_old OW.out k1 (fun x hx hm => by have := List.mem_singleton.1 hm; have := (OW.out.lt x hx).1; omega)
        refine ⟨n, a, c, rfl, by rw [rep_map]; exact hsp, by omega, ?_, kk.trans k1 (fun j hj _ => by have := List.mem_singleton.1 hj; simp [this])⟩
        rw [← HZ1.out]
        exact ⟨by decide, p', d1⟩
    · have e3 : (((k : Nat) : Int) == 3) = false := by simp; omega
      have HD := Lib.hid hdone
      have OW := Lib.hid own
      clear hdone own hk
      go_wp2_with fail
      go_ret
      exact ⟨n, a, c, rfl, by rw [rep_map]; exact OW.out, by omega, HD.out, kk⟩
end

section
set_option linter.unusedVariables false
set_option linter.unusedSimpArgs false
open Go.RowKit

theorem keeps_setRow {w : World} {g : Nat} {cs : Array Value} : Keeps w (w.setRow g cs) [g] :=
  ⟨rfl, rfl, rfl, by simp [World.setRow], fun k _ hn => setRow_other w g k cs (by simpa using hn)⟩

/-- A whole struct into a block: the world behind it is named by what it holds. -/
theorem wpList_store_blk {P : Program} {ops : Array Oper} {rest : List Oper} {o : Oper} {a : Act} {w : World} {Q : Exit → Act → World → Prop} (hg : o.guard = none) (ty : TypeId) (x y : Operand) (ho : o.op = .store ty x y)
    (g : Nat) (cells : Array Value) (hx : a.eval x = .pointer (some ⟨g, 0, none⟩)) (hy : a.eval y = .agg cells) (t : TypeId) (old : Array Value) (hb : Blk w g old t) (hi : (P.info? ty).map (·.size) = some cells.size)
    (hold : old.size = cells.size) (h1 : cells.all (·.oneCell') = true) (h : ∀ W, Blk W g cells t → Keeps w W [g] → wpList P ops Q rest (a.put o.dst undef) W) : wpList P ops Q (o :: rest) a w :=
  wpList_plain hg fun _ hK => wp_store_row ty x y ho g cells hx hy t old hb hi hold h1 (hK _ _ (h _ (setRow_heap w g old cells t (0, 0) hb) keeps_setRow))

theorem Blk.range {w : World} {b : Nat} {cs : Array Value} {T : TypeId} (h : Blk w b cs T) (o : Nat) (l : List Value) (hl : ∀ j v, l[j]? = some v → cs[o + j]? = some v) : w.rangeAt b o l := fun j v hv => by
  rw [h.cell]; exact hl j v hv

theorem load_blk {P : Program} {w : World} {b : Nat} {cs : Array Value} {T : TypeId} (h : Blk w b cs T) {d : TypeDesc} (hu : P.underlying T = some d) (hd : d.isRow = true) (hi : (P.info? T).map (·.size) = some cs.size) :
    (loadVar T ⟨b, 0, none⟩).run P w = .ok (.agg cs) w := by
  have := run_loadVar_mid (P := P) w b 0 T cs.toList d (h.range 0 _ (fun j v hv => by simpa using hv)) hu hd (by simpa using hi)
  simpa using this

/-- Two results, the first of them in a block. -/
theorem res_cell_tmp {fn : Func} {p q : Tmp} {T : TypeId} (h : fn.results = #[.cell p T, .tmp q]) {tmps : Array Value} {P : Program} {w : World} {a : Addr} {v u : Value} (ht : tmps.getD p undef = .pointer (some a)) (hu : tmps.getD q undef = u) (hl : (loadVar T a).run P w = .ok v w) :
    (results fn tmps).run P w = .ok (.tuple #[v, u]) w := by
  have ht' : tmps[p]?.getD undef = .pointer (some a) := by simpa using ht
  have hu' : tmps[q]?.getD undef = u := by simpa using hu
  simp [results, h, Sem.run_bind, Result.andThen, ht', hu', asAddr, hl]
end

section
set_option linter.unusedVariables false
set_option linter.unusedSimpArgs false
open Go.RowKit

theorem step_appendI {P : Program} {ops : Array Oper} {o : Oper} {a : Act} {w : World} {K : Act → World → Prop} {Q : Exit → Act → World → Prop} {E : Prop} (hgd : o.guard = none) (s x : Operand) (t : TypeId)
    (ho : o.op = .call { callee := .builtin .append, args := #[s, x], argTypes := #[t, t] })
    (base : Nat) (e : TypeId) (i : TypeInfo) (z : Value) (bytes : Nat) (ht : P.underlying t = some (.slice e)) (hi : P.info? e = some i) (hz : i.zero = some z)
    (hsize : i.size = 1) (hby : i.bytes = bytes) (hzs : z.cells.size = 1)
    (v : Value) (n : Nat) (xs : List Value) (hs : a.eval s = v) (hown : w.ownsRow base e 1 v n xs) (vx : Value) (hx : a.eval x = vx) (k : IntKind) (l : List Int) (hv : RdI k w vx l)
    (h63 : n + l.length ≤ maxLen) (hbytes : (n + l.length) * bytes ≤ 140737488355328) (hbase : base ≤ w.heap.size)
    (h : ∀ v' w', w'.ownsRow base e 1 v' (n + l.length) (xs ++ l.map (Value.int k)) → w.grownBy w' v.ownBlock → K (a.put o.dst v') w') :
    if Region.wanted o (yielded ops a.tmps) = true then Oper.wp P o a w K Q else E := by
  have hw : Region.wanted o (yielded ops a.tmps) = true := by simp [Region.wanted, hgd]
  rw [if_pos hw]
  obtain ⟨A0, m, cp, rfl, hm, -⟩ := hv.form
  cases A0 with
  | none =>
    obtain ⟨rfl, rfl, rfl⟩ := hv.nilcap
    have hrun := run_append_owned_none (P := P) (w := w) base t o.type e i 1 ht hi v n xs hown
    unfold Oper.wp
    simp [execOp, ho, resolve, invoke, builtin, hs, hx, hrun, Result.andThen]
    exact h v w (by simpa using hown) (grown_refl _ _)
  | some ad =>
    subst hm
    exact wp_append_own w s x t ho base e i z 1 bytes ht hi hz hsize hby hzs (by decide) v n xs hs hown ad l.length cp (l.map (Value.int k)) hx (by simp) hv.news (nums_one k l) h63 hbytes hbase
      (fun v' w' h1 h2 _ => h v' w' h1 h2)
end

end Go.Proofs.YtophgpnnjphnmaaGreat
