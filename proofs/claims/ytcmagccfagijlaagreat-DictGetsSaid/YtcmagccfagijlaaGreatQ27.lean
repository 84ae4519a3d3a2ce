/-
  Walks over the reference of readers of bits: Forward, First, Whole, Backward, Last.
-/
import Derived.Test.YtcmagccfagijlaaGreatQ26
import Derived.Test.YtcmagccfagijlaaGreatQ24
import Derived.Test.YtcmagccfagijlaaGreatQ15
import Derived.BigQuiet
namespace Go.Proofs.YtcmagccfagijlaaGreat
set_option linter.unusedVariables false
set_option linter.unusedSimpArgs false
set_option linter.unusedSectionVars false
open Go.RowKit

/-- The rest of a slice of booleans. -/
theorem sliceO_drop {w0 : World} {v : Value} {l : List Bool} (h : RdO w0 v l) {i : Nat} (hi' : i ≤ l.length) :
    ∃ r, (∀ w, (Instr.slice 176 v (some (.int .i64 (i : Int))) none none).run Tryz.prog w = .ok r w) ∧ RdO w0 r (l.drop i) ∧
      (∀ (ad : Addr) (n' c' : Nat), r = .slice (some ad) n' c' → 0 < n' → ∃ ad' n c, v = .slice (some ad') n c ∧ 0 < n ∧ ad.block = ad'.block) := by
  obtain ⟨i0, hi, hz0, hz1, hz2⟩ := info_parts Tryz.infoBool
  obtain ⟨ad, n, c, rfl, hn, hh⟩ := h.form
  have hcap := h.cap
  have run : ∀ w, (Instr.slice 176 (.slice ad n c) (some (.int .i64 (i : Int))) none none).run Tryz.prog w = .ok (.slice (if i < c then ad.map (·.add i) else ad) (n - i) (c - i)) w := by
    intro w
    have a1 : i ≤ n := by omega
    cases ad with
    | none =>
      obtain ⟨rfl, rfl, rfl⟩ := h.nilcap
      obtain rfl : i = 0 := by simp at hi'; omega
      simp [Instr.slice, Instr.sliceBounds, Instr.sliceBound, asIntOf, run_underlying Tryz.underlying176, go_sem, sizeOf, typeInfo, hi, hz1]
    | some a =>
      by_cases hic : i < c
      · have a3 : ¬ c = i := by omega
        simp [Instr.slice, Instr.sliceBounds, Instr.sliceBound, asIntOf, run_underlying Tryz.underlying176, go_sem, sizeOf, typeInfo, hi, hz1, a1, a3, hic]
      · obtain rfl : i = c := by omega
        obtain rfl : i = n := by omega
        simp [Instr.slice, Instr.sliceBounds, Instr.sliceBound, asIntOf, run_underlying Tryz.underlying176, go_sem, sizeOf, typeInfo, hi, hz1]
  refine ⟨_, run, ?_, ?_⟩
  rotate_left
  · intro a n' c' he h0
    injection he with g1 g2 g3
    cases ad with
    | none => exfalso; split at g1 <;> simp at g1
    | some A =>
      refine ⟨A, n, c, rfl, by omega, ?_⟩
      split at g1 <;> · simp at g1; rw [← g1]; first | done | (simp [Addr.add]; split <;> rfl)
  by_cases he : n - i = 0
  · rw [he, show l.drop i = [] from List.drop_eq_nil_of_le (by omega)]
    cases ad with
    | none =>
      obtain ⟨rfl, rfl, rfl⟩ := h.nilcap
      have : (0 : Nat) - i = 0 := by omega
      rw [this]
      simp
      exact .nil
    | some a => split <;> exact .zero _ _
  · obtain ⟨b, o, rfl, hb, hc⟩ := h.addr (by omega)
    rw [if_pos (by omega)]
    have e : Option.map (fun x : Addr => x.add i) (some ⟨b, o, none⟩) = some ⟨b, o + i, none⟩ := by simp [Addr.add]
    rw [e]
    refine ⟨_, _, _, rfl, by simp; omega, (fun h => by cases h), fun _ => ⟨by omega, b, o + i, rfl, hb, fun j x hx => ?_⟩⟩
    rw [List.getElem?_drop] at hx
    rw [Nat.add_assoc]
    exact hc _ _ hx
/-- The front of a slice of booleans. -/
theorem sliceO_front {w0 : World} {ad : Option Addr} {n c : Nat} {l : List Bool} (h : RdO w0 (.slice ad n c) l) {j : Nat} (hj : j ≤ l.length) :
    (∀ w, (Instr.slice 176 (.slice ad n c) none (some (.int .i64 (j : Int))) none).run Tryz.prog w = .ok (.slice ad j c) w) ∧ RdO w0 (.slice ad j c) (l.take j) := by
  obtain ⟨i0, hi, hz0, hz1, hz2⟩ := info_parts Tryz.infoBool
  have hcap := h.cap
  have hn := h.len
  have run : ∀ w, (Instr.slice 176 (.slice ad n c) none (some (.int .i64 (j : Int))) none).run Tryz.prog w = .ok (.slice ad j c) w := by
    intro w
    have a1 : j ≤ c := by omega
    cases ad with
    | none =>
      obtain ⟨rfl, rfl, rfl⟩ := h.nilcap
      obtain rfl : j = 0 := by simp at hj; omega
      simp [Instr.slice, Instr.sliceBounds, Instr.sliceBound, asIntOf, run_underlying Tryz.underlying176, go_sem, sizeOf, typeInfo, hi, hz1]
    | some a =>
      by_cases hc0 : c = 0
      · subst hc0
        obtain rfl : j = 0 := by omega
        simp [Instr.slice, Instr.sliceBounds, Instr.sliceBound, asIntOf, run_underlying Tryz.underlying176, go_sem, sizeOf, typeInfo, hi, hz1]
      · have a3 : ¬ 0 = c := by omega
        have a4 : 0 < c := by omega
        have e : a.add 0 = a := by simp [Addr.add]
        simp [Instr.slice, Instr.sliceBounds, Instr.sliceBound, asIntOf, run_underlying Tryz.underlying176, go_sem, sizeOf, typeInfo, hi, hz1, a1, a3, hc0, a4, e]
  refine ⟨run, ?_⟩
  obtain ⟨a', n', c', he, hl, h0, hc⟩ := h.form
  injection he with g1 g2 g3
  subst g1 g2 g3
  refine ⟨_, _, _, rfl, by simp; omega, (fun h => by obtain ⟨q1, q2⟩ := h0 h; omega), fun hp => ?_⟩
  obtain ⟨k1, b, o, k2, k3, k4⟩ := hc (by omega)
  refine ⟨by omega, b, o, k2, k3, fun i x hx => k4 i x ?_⟩
  rw [List.getElem?_take] at hx
  split at hx
  · exact hx
  · cases hx
theorem sliceO_take {w0 : World} {v : Value} {l : List Bool} (h : RdO w0 v l) {j : Nat} (hj : j ≤ l.length) :
    ∃ r, (∀ w, (Instr.slice 176 v none (some (.int .i64 (j : Int))) none).run Tryz.prog w = .ok r w) ∧ RdO w0 r (l.take j) ∧
      (∀ (ad : Addr) (n' c' : Nat), r = .slice (some ad) n' c' → 0 < n' → ∃ ad' n c, v = .slice (some ad') n c ∧ 0 < n ∧ ad.block = ad'.block) := by
  obtain ⟨ad, n, c, rfl, hn, -⟩ := h.form
  obtain ⟨h1, h2⟩ := sliceO_front h hj
  refine ⟨_, h1, h2, fun a n' c' he h0 => ?_⟩
  injection he with g1 g2 g3
  exact ⟨a, n, c, by rw [g1], by omega, rfl⟩

/-- A reader of the reference at block Q with the unread bits l, r bits read; the bits lie in block G. -/
structure FR (w : World) (Q G : Nat) (l : List Bool) (r : Nat) : Prop where
  at_ : ∃ vs, Blk w Q #[vs, .int .i64 (r : Int)] 179 ∧ RdO w vs l ∧ ∀ ad n c, vs = .slice (some ad) n c → 0 < n → ad.block = G
  ne : G ≠ Q
  small : r + l.length ≤ 10000000
theorem FR.keeps {w w' : World} {Q G r : Nat} {l : List Bool} {S : List Nat} (h : FR w Q G l r) (k : Keeps w w' S) (h1 : Q ∉ S) (h2 : 0 < l.length → G ∉ S) : FR w' Q G l r := by
  obtain ⟨vs, b, hr, hg⟩ := h.at_
  obtain ⟨a, n, c, rfl, hn, -⟩ := hr.form
  exact ⟨⟨_, b.keeps k h1, hr.keepsS k (fun ad n' c' e h0 => by rw [hg ad n' c' e h0]; exact h2 (by injection e; omega)), hg⟩, h.ne, h.small⟩
theorem FR.ltG {w : World} {Q G r : Nat} {l : List Bool} (h : FR w Q G l r) (h0 : 0 < l.length) : G < w.heap.size := by
  obtain ⟨vs, b, hr, hg⟩ := h.at_
  obtain ⟨a, n, c, rfl, hn, -⟩ := hr.form
  obtain ⟨bk, o, rfl, hb, -⟩ := hr.addr (by omega)
  rw [← hg _ _ _ rfl (by omega)]
  exact hb
theorem FR.old {w w' : World} {Q G r N : Nat} {l : List Bool} {S : List Nat} (h : FR w Q G l r) (k : Keeps w w' S) (hQ : Q < N) (hG : 0 < l.length → G < N) (hS : ∀ x ∈ S, N ≤ x) : FR w' Q G l r :=
  h.keeps k (fun hm => by have := hS _ hm; omega) (fun h0 hm => by have := hS _ hm; have := hG h0; omega)
theorem FR.lt {w : World} {Q G r : Nat} {l : List Bool} (h : FR w Q G l r) : Q < w.heap.size := by
  obtain ⟨vs, b, -, -⟩ := h.at_
  exact b.lt

set_option maxRecDepth 100000 in
set_option maxHeartbeats 2000000 in
theorem rfirst_ok (Q G r n : Nat) (l : List Bool) (w : World) (h : FR w Q G l r) (hn : n ≤ l.length) (h60 : n ≤ 60) :
    Calls Tryz.prog 103 #[.pointer (some ⟨Q, 0, none⟩), .int .i64 (n : Int)] w fun e w' => e = .returned (.tuple #[.int .u64 (valL (l.take n) : Int), .int .i64 0]) ∧ FR w' Q G (l.drop n) (r + n) ∧ Keeps w w' [Q] := by
  obtain ⟨vs, b, hr, hg⟩ := h.at_
  have HNE := Lib.hid h.ne
  have hsm := h.small
  obtain ⟨r1, hr1, rr1, -⟩ := sliceO_take hr hn
  obtain ⟨r2, hr2, rr2, hg2⟩ := sliceO_drop hr hn
  have HG2 : Hid (∀ ad n c, r2 = .slice (some ad) n c → 0 < n → ad.block = G) := Lib.hid (fun ad n c e h0 => by
    obtain ⟨ad', n', c', e', h0', e2⟩ := hg2 ad n c e h0
    rw [e2]; exact hg _ _ _ e' h0')
  have HV := Lib.hid (rvalue_any (l.take n) w r1 rr1 (by simp; omega))
  have HR2 := Lib.hid rr2
  obtain ⟨A0, m, cp, rfl, hm, -⟩ := hr.form
  obtain ⟨A2, m2, cp2, rfl, -, -⟩ := rr2.form
  obtain ⟨V, hV⟩ : ∃ V : Int, (valL (l.take n) : Int) = V := ⟨_, rfl⟩
  rw [hV] at HV ⊢
  have c0 := b.cell 0
  have c1 := b.cell 1
  have f0 := b.frozen 0
  have f1 := b.frozen 1
  simp at c0 c1
  have hnm : ¬ (m : Int) < (n : Int) := by omega
  have hnm2 : ¬ m < n := by omega
  have hn64 : ¬ (64 : Int) < (n : Int) := by omega
  have hn0 : ¬ (n : Int) < 0 := by omega
  have HB := Lib.hid b
  have HSM := Lib.hid hsm
  have hrn : (r : Int) + (n : Int) ≤ 10000000 := by omega
  clear h b hr hg hg2 rr1 rr2 hV hn hm hsm
  go_enter Tryz.func103, Tryz.ntmps103
  go_wp2_with (go_at_call 140; go_loud (refine HV.out.mono ?_; rintro e w1 ⟨rfl, rfl⟩))
  go_ret2
  refine ⟨rfl, ⟨⟨.slice A2 m2 cp2, ?_, ?_, HG2.out⟩, HNE.out, ?_⟩, ?_⟩
  · have := (HB.out.set 0 (.slice A2 m2 cp2)).set 1 (.int .i64 ((r : Int) + (n : Int)))
    simpa using this
  · refine HR2.out.keepsS (S := [Q]) ?_ (fun ad a b e h0 => by rw [HG2.out ad a b e h0]; simpa using HNE.out)
    exact .setCell' (.inr (by simp)) (.setCell' (.inr (by simp)) (Keeps.refl _ _))
  · rw [List.length_drop]; have := HSM.out; omega
  · exact .setCell' (.inr (by simp)) (.setCell' (.inr (by simp)) (Keeps.refl _ _))

set_option maxRecDepth 100000 in
set_option maxHeartbeats 2000000 in
theorem rfirst_no (Q G r n : Nat) (l : List Bool) (w : World) (h : FR w Q G l r) (hn : l.length < n) (h60 : n ≤ 60) :
    Calls Tryz.prog 103 #[.pointer (some ⟨Q, 0, none⟩), .int .i64 (n : Int)] w fun e w' => e = .returned (.tuple #[.int .u64 0, .int .i64 3]) ∧ w' = w := by
  obtain ⟨vs, b, hr, hg⟩ := h.at_
  obtain ⟨A0, m, cp, rfl, hm, -⟩ := hr.form
  have c0 := b.cell 0
  have f0 := b.frozen 0
  simp at c0
  have hnm : (m : Int) < (n : Int) := by omega
  have hnm2 : m < n := by omega
  have hn64 : ¬ (64 : Int) < (n : Int) := by omega
  have hn0 : ¬ (n : Int) < 0 := by omega
  clear h b hr hg hn hm
  go_enter Tryz.func103, Tryz.ntmps103
  go_wp2_with fail
  go_ret2
  exact ⟨rfl, rfl⟩

set_option maxRecDepth 100000 in
set_option maxHeartbeats 2000000 in
theorem rforward_any (B : List Int) (w : World) (vs : Value) (h : RdI .u8 w vs B) (hl : B.length ≤ 100000) (hB : ∀ x ∈ B, 0 ≤ x ∧ x ≤ 255) :
    Calls Tryz.prog 102 #[vs] w fun e w' => ∃ Q G, e = .returned (.pointer (some ⟨Q, 0, none⟩)) ∧ w.heap.size ≤ Q ∧ w.heap.size ≤ G ∧ FR w' Q G (rowBits B) 0 ∧ Keeps w w' [] := by
  have HR := Lib.hid (rrow_any B w vs h hl hB)
  go_enter Tryz.func102, Tryz.ntmps102
  go_wp2_with (go_at_call 139; go_loud (refine HR.out.mono ?_; rintro e w1 ⟨a, c, rfl, own, k1⟩))
  go_ret
  have hs := k1.size
  have rd := own_readsO (l := rowBits B) (by rw [rowBits_len]; exact own)
  rcases own.2 with ⟨he, h0⟩ | ⟨g, cp, cur, he, hg, hrow⟩
  · injection he with h1 h2 h3
    subst h1 h3
    refine ⟨w1.heap.size, w1.heap.size + 1, rfl, by omega, by omega, ⟨⟨_, Blk.new w1 _ _, rd.keeps ((Keeps.refl w1 []).alloc _), ?_⟩, by omega, by rw [rowBits_len]; omega⟩, k1.alloc _⟩
    intro ad n c e
    cases e
  · injection he with h1 h2 h3
    subst h1 h3
    have hlt := (own.lt g rfl).2
    refine ⟨w1.heap.size, g, rfl, by omega, hg, ⟨⟨_, Blk.new w1 _ _, rd.keeps ((Keeps.refl w1 []).alloc _), ?_⟩, by omega, by rw [rowBits_len]; omega⟩, k1.alloc _⟩
    intro ad n c e _
    cases e
    rfl

/-- The end mark of a byte: the highest bit. -/
theorem mark_byte : ∀ y : Fin 256, y.val ≠ 0 → Lib.bitLen y.val ≤ 8 ∧ 1 ≤ Lib.bitLen y.val ∧ (bitsN y.val 8)[Lib.bitLen y.val - 1]? = some true ∧ ∀ i : Fin 8, Lib.bitLen y.val ≤ i.val → (bitsN y.val 8)[i.val]? = some false := by decide +kernel

theorem rowBits_at {B : List Int} {m : Nat} {y : Int} (hy : B[m]? = some y) {i : Nat} (hi : i < 8) : (rowBits B)[8 * m + i]? = (bitsN y.toNat 8)[i]? := by
  have h := rowBits_piece (B := B) (i := m) (s := 0) (k := 8) hy (by omega)
  rw [Nat.add_zero, Nat.pow_zero, Nat.div_one] at h
  rw [← h, List.getElem?_take, if_pos hi, List.getElem?_drop]

/-- The mark of a row of bytes, and the padding behind it. -/
theorem top_mark {B : List Int} (hB : ∀ x ∈ B, 0 ≤ x ∧ x ≤ 255) (h0 : B.getD (B.length - 1) 0 ≠ 0) :
    topB B < 8 * B.length ∧ (rowBits B)[topB B]? = some true ∧ ∀ j, topB B < j → j < 8 * B.length → (rowBits B)[j]? = some false := by
  cases hb : B.length with
  | zero =>
    exfalso
    have : B = [] := List.eq_nil_of_length_eq_zero hb
    subst this
    exact h0 rfl
  | succ m =>
    obtain ⟨y, hy⟩ : ∃ y, B[m]? = some y := ⟨_, List.getElem?_eq_getElem (by omega)⟩
    have hg : B.getD (B.length - 1) 0 = y := by rw [hb, Nat.add_sub_cancel, List.getD_eq_getElem?_getD, hy]; rfl
    obtain ⟨y1, y2⟩ := hB y (List.mem_of_getElem? hy)
    obtain ⟨yn, rfl⟩ := Int.eq_ofNat_of_zero_le y1
    obtain ⟨b1, b2, b3, b4⟩ := mark_byte ⟨yn, by omega⟩ (fun h => h0 (by rw [hg]; simp at h; subst h; rfl))
    dsimp only at b1 b2 b3 b4
    have e : topB B = 8 * m + (Lib.bitLen yn - 1) := by rw [topB, hg, hb, Int.toNat_natCast]; omega
    rw [e]
    refine ⟨by omega, ?_, fun j h1 h2 => ?_⟩
    · rw [rowBits_at hy (by omega), Int.toNat_natCast]; exact b3
    · obtain ⟨i, rfl⟩ : ∃ i, j = 8 * m + i := ⟨j - 8 * m, by omega⟩
      rw [rowBits_at hy (by omega), Int.toNat_natCast]
      exact b4 ⟨i, by omega⟩ (by simp; omega)

theorem valL_pos : ∀ {l : List Bool} {i : Nat}, l[i]? = some true → valL l ≠ 0
  | [], i, h => by simp at h
  | b :: l, 0, h => by simp at h; subst h; simp [valL]
  | b :: l, i + 1, h => by
    have := valL_pos (l := l) (i := i) (by simpa using h)
    simp only [valL]
    omega
theorem valL_snoc {l : List Bool} {n : Nat} {b : Bool} (h : l[n]? = some b) (h0 : valL (l.take n) = 0) : valL (l.take (n + 1)) = 2 ^ n * (if b then 1 else 0) := by
  rw [List.take_add_one, h, valL_append, h0, List.length_take, Nat.min_eq_left (by have := (List.getElem?_eq_some_iff.1 h).1; omega)]
  simp [valL]

set_option maxRecDepth 100000 in
set_option maxHeartbeats 2000000 in
theorem rwhole_any (Q G r N : Nat) (l : List Bool) (w : World) (h : FR w Q G l r) (hN : r + l.length = 8 * N) :
    Calls Tryz.prog 105 #[.pointer (some ⟨Q, 0, none⟩)] w fun e w' =>
      Keeps w w' [Q] ∧ ((valL (l.take (l.length % 8)) = 0 ∧ e = .returned (.tuple #[.int .i64 ((N - l.length / 8 : Nat) : Int), .int .i64 0])) ∨ (valL (l.take (l.length % 8)) ≠ 0 ∧ e = .returned (.tuple #[.int .i64 0, .int .i64 14]))) := by
  obtain ⟨vs, b, hr, hg⟩ := h.at_
  have HNE := Lib.hid h.ne
  have hsm := h.small
  obtain ⟨K, hK⟩ : ∃ K, l.length % 8 = K := ⟨_, rfl⟩
  have hK8 : K < 8 := by omega
  have hKl : K ≤ l.length := by omega
  obtain ⟨r2, hr2, rr2, hg2⟩ := sliceO_drop hr hKl
  obtain ⟨A0, m, cp, rfl, hm, -⟩ := hr.form
  obtain ⟨A2, m2, cp2, rfl, -, -⟩ := rr2.form
  have c0 := b.cell 0
  have c1 := b.cell 1
  have f0 := b.frozen 0
  have f1 := b.frozen 1
  simp at c0 c1
  have HRR := Lib.hid hr
  have HL := Lib.hid (show l.length = m from hm.symm)
  have hq : ∀ n : Nat, n < K → ((r : Int) + (n : Int)) % 8 ≠ 0 := fun n hn => by omega
  have HQ := Lib.hid hq
  have hKe : ((r : Int) + (K : Int)) % 8 = 0 := by omega
  have HDIV : Hid (((r : Int) + (K : Int)) / 8 = ((N - l.length / 8 : Nat) : Int)) := Lib.hid (by omega)
  have hcap := hr.cap
  have HK := Lib.hid hK
  rw [hK]
  have hKm : K ≤ m := by omega
  have hrb : r ≤ 10000000 := by omega
  clear h b hr hg hg2 rr2 hm hK hKl hN hsm hq
  go_enter Tryz.func105, Tryz.ntmps105
  go_wp2_with fail
  go_loopw [4] (fun s4 wr => wr = w ∧ ∃ n : Nat, n ≤ K ∧ s4 = .int .i64 (n : Int) ∧ Hid (valL (l.take n) = 0)) (fun s4 _ => K - (intOf s4).toNat)
  case atStart => exact ⟨rfl, 0, by omega, rfl, Lib.hid (by simp [valL])⟩
  case round =>
    obtain ⟨rfl, n, hn, rfl, hv⟩ := hrel
    obtain ⟨Y, hY⟩ : ∃ Y : Int, (r : Int) + (n : Int) = Y := ⟨_, rfl⟩
    have hYa : 0 ≤ Y := by omega
    have hYb : Y ≤ 10000010 := by omega
    by_cases hlt : n < K
    · obtain ⟨b, hb⟩ : ∃ b, l[n]? = some b := ⟨_, List.getElem?_eq_getElem (by have := HL.out; omega)⟩
      obtain ⟨bk, o, rfl, hbk, hc⟩ := HRR.out.at hb
      have hY0 : Y % 8 ≠ 0 := by rw [← hY]; exact HQ.out n hlt
      have hY1 : (Y % 8 == 0) = false := by simpa using hY0
      have hnm : (n : Int) < (m : Int) := by omega
      have HSN := Lib.hid (valL_snoc hb hv.out)
      cases b with
      | true =>
        have HP : Hid (valL (l.take K) ≠ 0) := Lib.hid (valL_pos (i := n) (by rw [List.getElem?_take, if_pos hlt]; exact hb))
        clear hb
        go_wp2_with fail
        go_ret2
        exact ⟨Keeps.refl _ _, .inr ⟨HP.out, rfl⟩⟩
      | false =>
        have HP : Hid (valL (l.take (n + 1)) = 0) := Lib.hid (by rw [HSN.out]; simp)
        clear hb HSN
        go_wp2_with fail
        go_roundw
        case rel => exact ⟨trivial, n + 1, by omega, by simp, HP⟩
        case measure => simp only [intOf]; omega
    · obtain rfl : n = K := by omega
      have hY0 : Y % 8 = 0 := by rw [← hY]; exact hKe
      have HD := HDIV.out
      rw [hY] at HD
      have HDV := Lib.hid HD
      clear HD HDIV
      go_wp2_with fail
      go_ret2
      refine ⟨?_, .inl ⟨hv.out, ?_⟩⟩
      · exact .setCell' (.inr (by simp)) (.setCell' (.inr (by simp)) (Keeps.refl _ _))
      · rw [HDV.out]; rfl

set_option maxRecDepth 100000 in
set_option maxHeartbeats 2000000 in
theorem rbwd_no (B : List Int) (w : World) (vs : Value) (h : RdI .u8 w vs B) (hl : B.length ≤ 100000) (hB : ∀ x ∈ B, 0 ≤ x ∧ x ≤ 255) (h0 : B.getD (B.length - 1) 0 = 0) :
    Calls Tryz.prog 169 #[vs] w fun e w' => e = .returned (.tuple #[.pointer none, .int .i64 14]) ∧ Keeps w w' [] := by
  have HR := Lib.hid (rrow_any B w vs h hl hB)
  obtain ⟨A0, m, cp, rfl, hm, -⟩ := h.form
  by_cases he : m = 0
  · subst he
    clear h hl hB h0 hm
    go_enter Tryz.func169, Tryz.ntmps169
    go_wp2_with (go_at_call 139; go_loud (refine HR.out.mono ?_; rintro e w1 ⟨a, c, rfl, own, k1⟩))
    go_ret2
    exact ⟨rfl, k1⟩
  · obtain ⟨k, rfl⟩ : ∃ k, m = k + 1 := ⟨m - 1, by omega⟩
    obtain ⟨y, hy⟩ : ∃ y, B[k]? = some y := ⟨_, List.getElem?_eq_getElem (by omega)⟩
    have hy0 : y = 0 := by
      have : B.getD (B.length - 1) 0 = y := by rw [← hm, Nat.add_sub_cancel, List.getD_eq_getElem?_getD, hy]; rfl
      rw [← this]; exact h0
    subst hy0
    have HC := Lib.hid (fun w1 (kk : Keeps w w1 []) => (h.keeps kk).at hy)
    obtain ⟨bk, o, rfl, hbk, -⟩ := h.at hy
    have hcap := h.cap
    have hk5 : k ≤ 100000 := by omega
    have hz : ((k : Int) + 1 == 0) = false := by simp; omega
    have hmm0 : (0 : Int) ≤ (k : Int) := by omega
    have hmm1 : (k : Int) < (k : Int) + 1 := by omega
    clear h hl hB h0 hm hy he
    go_enter Tryz.func169, Tryz.ntmps169
    go_wp2_with (go_at_call 139; go_loud (refine HR.out.mono ?_; rintro e w1 ⟨a, c, rfl, own, k1⟩; obtain ⟨b', o', e', -, hc⟩ := HC.out w1 k1; cases e'))
    go_ret2
    exact ⟨rfl, k1⟩

set_option maxRecDepth 100000 in
set_option maxHeartbeats 2000000 in
theorem rbwd_yes (B : List Int) (w : World) (vs : Value) (h : RdI .u8 w vs B) (hl : B.length ≤ 100000) (hB : ∀ x ∈ B, 0 ≤ x ∧ x ≤ 255) (h0 : B.getD (B.length - 1) 0 ≠ 0) :
    Calls Tryz.prog 169 #[vs] w fun e w' => ∃ Q G, e = .returned (.tuple #[.pointer (some ⟨Q, 0, none⟩), .int .i64 0]) ∧ w.heap.size ≤ Q ∧ w.heap.size ≤ G ∧ FR w' Q G ((rowBits B).take (topB B)) 0 ∧ Keeps w w' [] := by
  have HR := Lib.hid (rrow_any B w vs h hl hB)
  obtain ⟨t1, t2, t3⟩ := top_mark hB h0
  obtain ⟨A0, m, cp, rfl, hm, -⟩ := h.form
  have he : m ≠ 0 := fun he => by omega
  obtain ⟨k, rfl⟩ : ∃ k, m = k + 1 := ⟨m - 1, by omega⟩
  obtain ⟨y, hy⟩ : ∃ y, B[k]? = some y := ⟨_, List.getElem?_eq_getElem (by omega)⟩
  have hy0 : y ≠ 0 := by
    have : B.getD (B.length - 1) 0 = y := by rw [← hm, Nat.add_sub_cancel, List.getD_eq_getElem?_getD, hy]; rfl
    rw [← this]; exact h0
  have hyb : (y == 0) = false := by simpa using hy0
  have HC := Lib.hid (fun w1 (kk : Keeps w w1 []) => (h.keeps kk).at hy)
  obtain ⟨bk, o, rfl, hbk, -⟩ := h.at hy
  have hcap := h.cap
  have hk5 : k ≤ 100000 := by omega
  have hz : ((k : Int) + 1 == 0) = false := by simp; omega
  have hmm0 : (0 : Int) ≤ (k : Int) := by omega
  have hmm1 : (k : Int) < (k : Int) + 1 := by omega
  obtain ⟨M, hM⟩ : ∃ M, 8 * B.length = M := ⟨_, rfl⟩
  obtain ⟨T, hT⟩ : ∃ T, topB B = T := ⟨_, rfl⟩
  rw [hM] at HR t1 t3
  rw [hT] at t1 t2 t3 ⊢
  have T2 := Lib.hid t2
  have T3 := Lib.hid t3
  have hMb : M ≤ 1000000 := by omega
  have hrl : (rowBits B).length = M := by rw [rowBits_len, hM]
  obtain ⟨L, hL⟩ : ∃ L, rowBits B = L := ⟨_, rfl⟩
  rw [hL] at HR T2 T3 hrl ⊢
  have HLL := Lib.hid hrl
  clear h hl hB h0 hm hy he hM hT t2 t3 hL hrl
  go_enter Tryz.func169, Tryz.ntmps169
  go_wp2_with (go_at_call 139; go_loud (refine HR.out.mono ?_; rintro e w1 ⟨a, c, rfl, own, k1⟩; obtain ⟨b', o', e', -, hc⟩ := HC.out w1 k1; cases e'))
  have hs := k1.size
  obtain ⟨g, ha, row⟩ := rowO_own HLL.out (by omega) own
  subst ha
  have RD := Lib.hid (own_readsO (l := L) (by rw [HLL.out]; exact own))
  have hg1 := row.lt
  clear own row hc
  go_loopw [4] (fun s4 wr => wr = w1 ∧ ∃ (n c' : Nat), s4 = .slice (some ⟨g, 0, none⟩) n c' ∧ T < n ∧ n ≤ M ∧ Hid (RdO w1 (.slice (some ⟨g, 0, none⟩) n c') (L.take n))) (fun s4 _ => lenV s4)
  case atStart => exact ⟨rfl, M, c, rfl, t1, Nat.le_refl _, Lib.hid (by rw [← HLL.out, List.take_length, HLL.out]; exact RD.out)⟩
  case round =>
    obtain ⟨rfl, n, c', rfl, hT, hnM, rd⟩ := hrel
    obtain ⟨q, rfl⟩ : ∃ q, n = q + 1 := ⟨n - 1, by omega⟩
    have hq0 : (0 : Int) ≤ (q : Int) := by omega
    have hq1 : (q : Int) < (q : Int) + 1 := by omega
    have hcap' := rd.out.cap
    obtain ⟨hr, rr⟩ := sliceO_front rd.out (j := q) (by rw [List.length_take, HLL.out]; omega)
    rw [List.take_take, Nat.min_eq_left (by omega)] at rr
    have RR := Lib.hid rr
    obtain ⟨b, hb⟩ : ∃ b, L[q]? = some b := ⟨_, List.getElem?_eq_getElem (by rw [HLL.out]; omega)⟩
    obtain ⟨b', o', e', hbk', hc'⟩ := rd.out.at (i := q) (x := b) (by rw [List.getElem?_take, if_pos (by omega)]; exact hb)
    cases e'
    rw [Nat.zero_add] at hc'
    clear rr rd
    by_cases hqT : q = T
    · subst hqT
      have hbt : b = true := by have := T2.out; rw [hb] at this; injection this
      subst hbt
      clear hb
      have KK := Lib.hid k1
      clear k1
      go_wp2_with fail
      go_ret2
      refine ⟨wr.heap.size, g, rfl, by omega, hg1.1, ⟨⟨_, Blk.new wr _ _, RR.out.keeps ((Keeps.refl wr []).alloc _), ?_⟩, by omega, by rw [List.length_take, HLL.out]; omega⟩, KK.out.alloc _⟩
      intro ad n c e _
      cases e
      rfl
    · have hbf : b = false := by have := T3.out q (by omega) (by omega); rw [hb] at this; injection this
      subst hbf
      clear hb
      go_wp2_with fail
      go_roundw
      case rel => exact ⟨trivial, q, c', rfl, by omega, by omega, RR⟩
      case measure => simp only [lenV]; omega

set_option maxRecDepth 100000 in
set_option maxHeartbeats 2000000 in
theorem rlast_no (Q G r n : Nat) (l : List Bool) (w : World) (h : FR w Q G l r) (hn : l.length < n) (h60 : n ≤ 60) :
    Calls Tryz.prog 170 #[.pointer (some ⟨Q, 0, none⟩), .int .i64 (n : Int)] w fun e w' => e = .returned (.tuple #[.int .u64 0, .int .i64 14]) ∧ w' = w := by
  obtain ⟨vs, b, hr, hg⟩ := h.at_
  obtain ⟨A0, m, cp, rfl, hm, -⟩ := hr.form
  have c0 := b.cell 0
  have f0 := b.frozen 0
  simp at c0
  have hnm : (m : Int) < (n : Int) := by omega
  have hnm2 : m < n := by omega
  have hn64 : ¬ (64 : Int) < (n : Int) := by omega
  have hn0 : ¬ (n : Int) < 0 := by omega
  clear h b hr hg hn hm
  go_enter Tryz.func170, Tryz.ntmps170
  go_wp2_with fail
  go_ret2
  exact ⟨rfl, rfl⟩

set_option maxRecDepth 100000 in
set_option maxHeartbeats 2000000 in
theorem rlast_ok (Q G r n : Nat) (l : List Bool) (w : World) (h : FR w Q G l r) (hn : n ≤ l.length) (h60 : n ≤ 60) :
    Calls Tryz.prog 170 #[.pointer (some ⟨Q, 0, none⟩), .int .i64 (n : Int)] w fun e w' => e = .returned (.tuple #[.int .u64 (valL (l.drop (l.length - n)) : Int), .int .i64 0]) ∧ FR w' Q G (l.take (l.length - n)) (r + n) ∧ Keeps w w' [Q] := by
  obtain ⟨vs, b, hr, hg⟩ := h.at_
  have HNE := Lib.hid h.ne
  have hsm := h.small
  obtain ⟨d, hd⟩ : ∃ d, l.length - n = d := ⟨_, rfl⟩
  have hdl : d ≤ l.length := by omega
  rw [hd]
  obtain ⟨r1, hr1, rr1, -⟩ := sliceO_drop hr hdl
  obtain ⟨r2, hr2, rr2, hg2⟩ := sliceO_take hr hdl
  have HG2 : Hid (∀ ad n c, r2 = .slice (some ad) n c → 0 < n → ad.block = G) := Lib.hid (fun ad n c e h0 => by
    obtain ⟨ad', n', c', e', h0', e2⟩ := hg2 ad n c e h0
    rw [e2]; exact hg _ _ _ e' h0')
  have HV := Lib.hid (fun w1 (k : Keeps w w1 []) => rvalue_any (l.drop d) w1 r1 (rr1.keeps k) (by simp; omega))
  have HR2 := Lib.hid rr2
  obtain ⟨A0, m, cp, rfl, hm, -⟩ := hr.form
  obtain ⟨A2, m2, cp2, rfl, -, -⟩ := rr2.form
  obtain ⟨V, hV⟩ : ∃ V : Int, (valL (l.drop d) : Int) = V := ⟨_, rfl⟩
  rw [hV] at HV ⊢
  have c0 := b.cell 0
  have c1 := b.cell 1
  have f0 := b.frozen 0
  have f1 := b.frozen 1
  simp at c0 c1
  have hnm : ¬ (m : Int) < (n : Int) := by omega
  have hnm2 : ¬ m < n := by omega
  have hn64 : ¬ (64 : Int) < (n : Int) := by omega
  have hn0 : ¬ (n : Int) < 0 := by omega
  have hmd : (m : Int) - (n : Int) = (d : Int) := by omega
  have hdw : IntKind.i64.wrap (d : Int) = (d : Int) := by simp [IntKind.wrap, IntKind.signed, IntKind.bits]; omega
  have HB := Lib.hid b
  have HSM := Lib.hid hsm
  have hrn : (r : Int) + (n : Int) ≤ 10000000 := by omega
  have HDL := Lib.hid (show d + n = l.length by omega)
  clear h b hr hg hg2 rr1 rr2 hV hn hm hsm hd hdl
  go_enter Tryz.func170, Tryz.ntmps170
  go_wp2_with fail
  go_quiet ((go_at_call 140; exact Calls.quiet_of_same (HV.out _ ((Keeps.refl w []).drewN _))))
  go_wp2_with fail
  go_region
  go_wp2_with fail
  go_ret2
  refine ⟨rfl, ⟨⟨.slice A2 m2 cp2, ?_, ?_, HG2.out⟩, HNE.out, ?_⟩, ?_⟩
  · have := (HB.out.set 0 (.slice A2 m2 cp2)).set 1 (.int .i64 ((r : Int) + (n : Int)))
    simp at this ⊢
    exact this
  · refine HR2.out.keepsS (S := [Q]) ?_ (fun ad a b e h0 => by rw [HG2.out ad a b e h0]; simpa using HNE.out)
    refine Keeps.setCell' (.inr ?_) (Keeps.setCell' (.inr ?_) (Keeps.drewN (Keeps.refl _ _) _)) <;> simp
  · rw [List.length_take]; have := HSM.out; have := HDL.out; omega
  · refine Keeps.setCell' (.inr ?_) (Keeps.setCell' (.inr ?_) (Keeps.drewN (Keeps.refl _ _) _)) <;> simp


end Go.Proofs.YtcmagccfagijlaaGreat
