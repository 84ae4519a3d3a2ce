/-
  The length of a number in bits is its logarithm and one more. No program is in sight here.
  The weights of a tree; the tree of weights. No program is in sight here.
  Walks over package weights: is, must, the deferred function, of.
  A cursor over bytes: Left; the calls through num.read.
-/
import Derived.WalkKit
import Derived.Shelf.Small.Bits
import Derived.Test.YtcmagccfagijlaaGreatQ1
import Derived.BigQuiet
import Derived.Deep.QuietTactic
import Derived.Laws.EntriesVeiled
namespace Go.Proofs.YtcmagccfagijlaaGreat
section
set_option linter.unusedVariables false
set_option linter.unusedSimpArgs false

theorem bitLenAux_log (f n : Nat) (h : n < 2 ^ f) (h0 : 0 < n) : Go.Lib.bitLenAux f n = n.log2 + 1 := by
  induction f generalizing n with
  | zero => omega
  | succ f ih =>
    rw [Go.Lib.bitLenAux, if_neg (by omega)]
    by_cases h2 : n / 2 = 0
    · have : n = 1 := by omega
      subst this
      cases f <;> simp [Go.Lib.bitLenAux, Nat.log2_def]
    · rw [ih (n / 2) (by rw [Nat.pow_succ] at h; omega) (by omega)]
      rw [Nat.log2_def n, if_pos (by omega)]
      omega
theorem bitLen_log {n : Nat} (h0 : 0 < n) (h : n < 18446744073709551616) : Go.Lib.bitLen n = n.log2 + 1 := bitLenAux_log 64 n h h0
end

section
set_option linter.unusedVariables false
set_option linter.unusedSimpArgs false
open Go.RowKit

/-! ### The last positive number -/
/-! ### Weights of a tree -/
def wgt (k x : Int) : Int := if 0 < x then k + 1 - x else 0
/-! ### The tree of weights -/
def sumW : List Int → Nat
  | [] => 0
  | x :: l => (if 0 < x then 2 ^ (x.toNat - 1) else 0) + sumW l
theorem sumW_append (a b : List Int) : sumW (a ++ b) = sumW a + sumW b := by
  induction a with
  | nil => simp [sumW]
  | cons x a ih => simp only [List.cons_append, sumW, ih]; omega
theorem sumW_snoc (l : List Int) (x : Int) : sumW (l ++ [x]) = sumW l + (if 0 < x then 2 ^ (x.toNat - 1) else 0) := by
  rw [sumW_append]; simp [sumW]
theorem sumW_take {l : List Int} {k : Nat} {x : Int} (h : l[k]? = some x) : sumW (l.take (k + 1)) = sumW (l.take k) + (if 0 < x then 2 ^ (x.toNat - 1) else 0) := by
  rw [take_next h, sumW_snoc]
theorem sumW_le {l : List Int} (h : l.all (finM 11) = true) : sumW l ≤ 1024 * l.length := by
  induction l with
  | nil => simp [sumW]
  | cons x l ih =>
    simp only [List.all_cons, Bool.and_eq_true] at h
    have h1 := ih h.2
    have h2 := finM_iff.1 h.1
    simp only [sumW, List.length_cons]
    split
    · have : 2 ^ (x.toNat - 1) ≤ 2 ^ 10 := Nat.pow_le_pow_right (by decide) (by omega)
      omega
    · omega
def lenW (w : List Int) : Bool := decide (0 < w.length) && decide (w.length < 256)
def kW (w : List Int) : Nat := Go.Lib.bitLen (sumW w)
def restW (w : List Int) : Nat := 2 ^ kW w - sumW w
def vW (w : List Int) : Nat := Go.Lib.bitLen (restW w)
def okW (w : List Int) : Bool := ((lenW w && w.all (finM 11)) && (decide (0 < sumW w) && (decide (kW w ≤ 11) && decide (restW w = 2 ^ (vW w - 1))))) && (w ++ [(vW w : Int)]).contains 1
def trL (k : Nat) (l : List Int) : List Int := l.map (wgt k)
def tOf (w : List Int) : List Int := trL (kW w) (w ++ [(vW w : Int)])

theorem bitLen_zero : Go.Lib.bitLen 0 = 0 := rfl
theorem bitLen_le {n k : Nat} (hn : n < 18446744073709551616) : k < Go.Lib.bitLen n ↔ 2 ^ k ≤ n := by
  rcases Nat.eq_zero_or_pos n with rfl | h0
  · rw [bitLen_zero]
    have := Nat.two_pow_pos k
    omega
  · rw [bitLen_log h0 hn, ← Nat.le_log2 (by omega)]
    omega
theorem bitLen_lt {n : Nat} (hn : n < 18446744073709551616) : n < 2 ^ Go.Lib.bitLen n := by
  have := (bitLen_le (k := Go.Lib.bitLen n) hn)
  omega
theorem bitLen_top {n k : Nat} (hn : n < 18446744073709551616) (h : n < 2 ^ k) : Go.Lib.bitLen n ≤ k := by
  have := (bitLen_le (k := k) hn)
  omega

/-- What follows from the length and the size of the numbers alone. -/
theorem sums {w : List Int} (h1 : lenW w = true) (h2 : w.all (finM 11) = true) : sumW w ≤ 262144 ∧ kW w ≤ 19 ∧ sumW w < 2 ^ kW w ∧ 2 ^ kW w ≤ 524288 ∧ 0 < restW w ∧ restW w ≤ 524288 ∧ restW w + sumW w = 2 ^ kW w ∧ 0 < vW w ∧ vW w ≤ 20 := by
  have hs := sumW_le h2
  have hl : w.length < 256 := by simp [lenW] at h1; exact h1.2
  have e1 : (2 : Nat) ^ 19 = 524288 := by decide
  have e2 : (2 : Nat) ^ 20 = 1048576 := by decide
  have a1 : sumW w ≤ 262144 := by omega
  have a2 : kW w ≤ 19 := bitLen_top (by omega) (by omega)
  have a3 : sumW w < 2 ^ kW w := bitLen_lt (by omega)
  have a4 : 2 ^ kW w ≤ 2 ^ 19 := Nat.pow_le_pow_right (by decide) a2
  have a5 : restW w + sumW w = 2 ^ kW w := by unfold restW; omega
  refine ⟨a1, a2, a3, by omega, by omega, by omega, a5, ?_, bitLen_top (by omega) (by omega)⟩
  have := (bitLen_le (n := restW w) (k := 0) (by omega)).2 (by rw [Nat.pow_zero]; omega)
  exact this
end

section
set_option linter.unusedVariables false
set_option linter.unusedSimpArgs false
set_option linter.unusedSectionVars false
open Go.RowKit

/-- The slice lies behind the memory that was there. -/
def Fresh (base : Nat) (v : Value) : Prop := ∀ ad n c, v = .slice (some ad) n c → base ≤ ad.block
theorem Fresh.nil {b : Nat} : Fresh b (.slice none 0 0) := fun _ _ _ h => by cases h
theorem Fresh.mono {b b' : Nat} {v : Value} (h : Fresh b v) (hb : b' ≤ b) : Fresh b' v := fun ad n c e => Nat.le_trans hb (h ad n c e)

theorem wis_yes {b : Bool} (h : b = true) (n : Int) (w : World) : Calls Tryz.prog 125 #[.bool b, .int .i64 n] w fun e w' => e = .returned (.tuple #[]) ∧ w = w' := by
  subst h
  go_enter Tryz.func125, Tryz.ntmps125
  go_wp2
  go_end0
  exact ⟨rfl, rfl⟩
theorem wis_no {b : Bool} (h : b = false) (n : Int) (w : World) : Calls Tryz.prog 125 #[.bool b, .int .i64 n] w fun e w' => e = .panicked [raisedBy n false] ∧ w = w' := by
  subst h
  go_enter Tryz.func125, Tryz.ntmps125
  go_wp2
  exact ⟨rfl, rfl, rfl⟩
theorem wmust_yes (bf : Nat) (w : World) (h : Blk w bf #[.int .i64 0] 33) : Calls Tryz.prog 143 #[.slice (some ⟨bf, 0, none⟩) 1 1] w fun e w' => e = .returned (.tuple #[]) ∧ w = w' := by
  obtain ⟨c0, -⟩ := h.one
  go_enter Tryz.func143, Tryz.ntmps143
  go_wp2_with fail
  refine wp_loop_rounds 2 ?_
  rw [rounds_succ]
  go_wp2_with fail
  rw [rounds_succ]
  go_wp2_with fail
  go_end0
  exact ⟨rfl, rfl⟩
theorem wmust_no (n : Int) (hn : n ≠ 0) (bf : Nat) (w : World) (h : Blk w bf #[.int .i64 n] 33) : Calls Tryz.prog 143 #[.slice (some ⟨bf, 0, none⟩) 1 1] w fun e w' => e = .panicked [raisedBy n false] ∧ w = w' := by
  obtain ⟨c0, -⟩ := h.one
  go_enter Tryz.func143, Tryz.ntmps143
  go_wp2_with fail
  refine wp_loop_rounds 1 ?_
  rw [rounds_succ]
  go_wp2_with fail
  exact ⟨rfl, rfl, rfl⟩

/-- The deferred function of a call that returns: it does nothing. -/
theorem wcaught_idle (p : Addr) (f : Value) (w : World) :
    CallsD Tryz.prog 107 #[.pointer (some p), f] .returning w fun e u' w' => e = .returned (.tuple #[]) ∧ u' = .returning ∧ w' = w := by
  refine callsD_of_wpS Tryz.func107 rfl fun c₀ cs hu => ?_
  simp only [Tryz.ntmps107, List.size_toArray, List.length_cons, List.length_nil, Nat.reduceAdd, Nat.reduceSub, Array.replicate_succ, Array.replicate_zero, List.push_toArray, List.append_toArray, List.nil_append, List.cons_append]
  apply wpS_seq
  apply wpS_region
  simp [wpOpsS, go_sem, recoverD, hu, Exit.thenS]
  refine wpS_of_wp ?_
  have HU := Lib.hid hu
  clear hu
  go_wp2
  refine ⟨rfl, .returning, ?_, .tuple #[], by simp [results, Tryz.results107], rfl, rfl, rfl⟩
  have hu := HU.out
  cases c₀
  simp_all

set_option maxHeartbeats 600000 in
/-- The deferred function where an error was raised: the result is cleared, the error is laid. -/
theorem wcaught_dec (pe po : Nat) (n : Int) (x z : Value) (te tq : TypeId) (older : List PanicEntry) (w : World) (he : Blk w pe #[z] te) (ho : Blk w po #[x] tq) (h1 : pe ≠ po) :
    CallsD Tryz.prog 107 #[.pointer (some ⟨pe, 0, none⟩), .func (.func 123) #[] #[.pointer (some ⟨po, 0, none⟩)]] (.panicking (raisedBy n false :: older)) w fun e u' w' =>
      e = .returned (.tuple #[]) ∧ u' = .panicking (raisedBy n true :: older) ∧ w' = (w.setCell ⟨po, 0, none⟩ (.slice none 0 0)).setCell ⟨pe, 0, none⟩ (.int .i64 n) := by
  obtain ⟨c0, f0⟩ := he.one
  obtain ⟨c1, f1⟩ := ho.one
  have hta : ∀ w : World, (Instr.typeAssert (.iface 33 (.int .i64 n)) 20 33 true).run Tryz.prog w = .ok (.tuple #[.int .i64 n, .bool true]) w := fun _ => by kernel_rfl
  have h1' := h1.symm
  refine callsD_of_wpS Tryz.func107 rfl fun c₀ cs hu => ?_
  simp only [Tryz.ntmps107, List.size_toArray, List.length_cons, List.length_nil, Nat.reduceAdd, Nat.reduceSub, Array.replicate_succ, Array.replicate_zero, List.push_toArray, List.append_toArray, List.nil_append, List.cons_append]
  apply wpS_seq
  apply wpS_region
  simp [wpOpsS, go_sem, recoverD, hu, Exit.thenS, raisedBy]
  refine wpS_of_wp ?_
  have HU := Lib.hid hu
  clear hu
  go_wp2
  go_end0
  go_wp2
  refine ⟨rfl, .panicking (raisedBy n true :: older), ?_, .tuple #[], by simp [results, Tryz.results107], rfl, rfl, rfl⟩
  simp [raisedBy]

theorem Tryz.infoInt : (Tryz.prog.info? 3).map (fun i => (i.zero, i.size, i.bytes)) = some (some (.int .i64 0), 1, 8) := by kernel_rfl
theorem make_ints (n : Nat) (hn : n ≤ 1000000) (w : World) : (Instr.makeSlice 25 (.int .i64 (n : Int)) (.int .i64 (n : Int))).run Tryz.prog w = .ok (.slice (some ⟨w.heap.size, 0, none⟩) n n) (w.alloc (.cells (ints (List.replicate n 0)) 3)) := by
  obtain ⟨i0, hi, hz0, hz1, hz2⟩ := info_parts Tryz.infoInt
  have hr := run_make (P := Tryz.prog) w 25 3 i0 (.int .i64 0) Tryz.underlying25 hi hz0 .i64 .i64 n n (by omega) (Int.le_refl _) (by rw [hz2]; omega) (by omega)
  simp only [Int.toNat_natCast] at hr
  rw [hr]
  have e : (madeCells (Value.int .i64 0).cells (n * i0.size)) = ints (List.replicate n 0) := by
    rw [hz1, Nat.mul_one]
    apply Array.toList_inj.1
    exact (toList_madeCells_one _ n).trans (by simp [ints])
  rw [e]

/-- A call returns a list and an error, and leaves the memory that was there. -/
def LsEnd (w : World) (l : List Int) (n : Int) (e : Ending) (w' : World) : Prop := ∃ v, e = .returned (.tuple #[v, .int .i64 n]) ∧ RdI .i64 w' v l ∧ Fresh w.heap.size v ∧ Keeps w w' []
end

section
set_option linter.unusedVariables false
set_option linter.unusedSimpArgs false
set_option linter.unusedSectionVars false
open Go.RowKit

theorem own_freshB {w : World} {base : Nat} {v : Value} {l : List Int} (h : OwnB w base v l) : Fresh base v := fun ad n c e => by
  subst e
  exact (h.lt ad.block rfl).1

/-- A cursor at block p: the slice v holds the bytes B, k of them are read. -/
structure Cur (w : World) (p : Nat) (v : Value) (B : List Int) (k : Nat) : Prop where
  blk : Blk w p #[v, .int .i64 (k : Int)] 127
  rd : RdI .u8 w v B
  le : k ≤ B.length
  len : B.length ≤ 1000000
  ne : ∀ ad n c, v = .slice (some ad) n c → 0 < n → ad.block ≠ p
  byte : ∀ x ∈ B, 0 ≤ x ∧ x ≤ 255

theorem Cur.keeps {w w' : World} {p k : Nat} {v : Value} {B : List Int} (h : Cur w p v B k) (kk : Keeps w w' []) : Cur w' p v B k :=
  ⟨h.blk.keeps kk (by simp), h.rd.keeps kk, h.le, h.len, h.ne, h.byte⟩
theorem Cur.keepsS {w w' : World} {p k : Nat} {v : Value} {B : List Int} {S : List Nat} (h : Cur w p v B k) (kk : Keeps w w' S) (hp : p ∉ S) (hv : ∀ ad n c, v = .slice (some ad) n c → 0 < n → ad.block ∉ S) : Cur w' p v B k :=
  ⟨h.blk.keeps kk hp, h.rd.keepsS kk hv, h.le, h.len, h.ne, h.byte⟩
theorem Cur.set {w : World} {p k : Nat} {v : Value} {B : List Int} (h : Cur w p v B k) {k' : Nat} (hk : k' ≤ B.length) : Cur (w.setCell ⟨p, 1, none⟩ (.int .i64 (k' : Int))) p v B k' := by
  refine ⟨by have := h.blk.set 1 (.int .i64 (k' : Int)); simpa using this, ?_, hk, h.len, h.ne, h.byte⟩
  exact h.rd.keepsS (S := [p]) ((Keeps.refl w [p]).setCell (.inr (by simp)) _) (fun ad n c e hn hm => h.ne ad n c e hn (by simpa using hm))
/-- The blocks of the slice and of the cursor are older than b. -/
theorem Cur.old {w : World} {p k : Nat} {v : Value} {B : List Int} (h : Cur w p v B k) : p < w.heap.size ∧ ∀ ad n c, v = .slice (some ad) n c → 0 < n → ad.block < w.heap.size := by
  refine ⟨h.blk.lt, fun ad n c e hn => ?_⟩
  subst e
  obtain ⟨b, o, he, hb, -⟩ := h.rd.addr hn
  cases he
  exact hb

theorem Cur.cells {w : World} {p k : Nat} {v : Value} {B : List Int} (h : Cur w p v B k) : w.cell? ⟨p, 0, none⟩ = some v ∧ w.cell? ⟨p, 1, none⟩ = some (.int .i64 (k : Int)) ∧ w.frozen? ⟨p, 1, none⟩ = false :=
  ⟨h.blk.cell 0, h.blk.cell 1, h.blk.frozen 1⟩

set_option maxRecDepth 100000 in
theorem left_any (p k : Nat) (v : Value) (B : List Int) (w : World) (h : Cur w p v B k) :
    Calls Tryz.prog 98 #[.pointer (some ⟨p, 0, none⟩)] w fun e w' => e = .returned (.int .i64 ((B.length : Int) - (k : Int))) ∧ ∃ m, w' = w.drewN m := by
  obtain ⟨c0, c1, -⟩ := h.cells
  have hle := h.le
  have hlen := h.len
  obtain ⟨ad, n, c, rfl, rfl, -⟩ := h.rd.form
  clear h
  go_enter Tryz.func98, Tryz.ntmps98
  go_wp2_with fail
  go_quiet (fail)
  go_wp2_with fail
  go_ret
  exact ⟨rfl, _, rfl⟩

/-- What a call that reads bytes gives: the value x, the error n, the cursor at k'. -/
def CurEnd (w : World) (p : Nat) (v : Value) (B : List Int) (x : Value) (n : Int) (k' : Nat) (e : Ending) (w' : World) : Prop :=
  e = .returned (.tuple #[x, .int .i64 n]) ∧ Cur w' p v B k' ∧ Keeps w w' [p]

set_option maxRecDepth 100000 in
theorem byte1_none (p h k : Nat) (v : Value) (B : List Int) (w : World) (hc : Cur w p v B k) (hb : Blk w h #[.pointer (some ⟨p, 0, none⟩)] 71) (hk : k = B.length) :
    Calls Tryz.prog 162 #[.pointer (some ⟨h, 0, none⟩)] w (CurEnd w p v B (.int .u8 0) 3 k) := by
  have HC := Lib.hid hc
  have HL := Lib.hid (left_any p k v B w hc)
  obtain ⟨b0, -⟩ := hb.one
  have hz : ((B.length : Int) - (k : Int) == 0) = true := by simp; omega
  clear hc hb hk
  go_enter Tryz.func162, Tryz.ntmps162
  go_wp2_with (refine HL.out.mono ?_; rintro e w1 ⟨rfl, m, rfl⟩)
  exact bodyPost_ret (v := .tuple #[.int .u8 0, .int .i64 3]) (by simp [results, Tryz.results162]) rfl ⟨rfl, HC.out.keeps ((Keeps.refl _ _).drewN m), (Keeps.refl _ _).drewN m⟩

set_option maxRecDepth 100000 in
set_option maxHeartbeats 1000000 in
theorem byte1_some (p h k : Nat) (v : Value) (B : List Int) (w : World) (hc : Cur w p v B k) (hb : Blk w h #[.pointer (some ⟨p, 0, none⟩)] 71) (hne : h ≠ p) (x : Int) (hx : B[k]? = some x) :
    Calls Tryz.prog 162 #[.pointer (some ⟨h, 0, none⟩)] w (CurEnd w p v B (.int .u8 x) 0 (k + 1)) := by
  have HL := Lib.hid (left_any p k v B w hc)
  have hk := (List.getElem?_eq_some_iff.1 hx).1
  have hlen := hc.len
  have hnz : ((B.length : Int) - (k : Int) == 0) = false := by simp; omega
  obtain ⟨ad, n, c, rfl, hn, -⟩ := hc.rd.form
  obtain ⟨b, o, rfl, hbl, hcx⟩ := hc.rd.at hx
  have hcap := hc.rd.cap
  have hbp : b ≠ p := hc.ne _ _ _ rfl (by omega)
  have hin : (k : Int) < (n : Int) := by omega
  obtain ⟨d0, -⟩ := hb.one
  obtain ⟨c0, c1, f1⟩ := hc.cells
  have NC : Hid (∀ m, Cur ((w.drewN m).setCell ⟨p, 1, none⟩ (.int .i64 ((k : Int) + 1))) p (.slice (some ⟨b, o, none⟩) n c) B (k + 1)) := fun m => by
    have := (hc.keeps ((Keeps.refl _ _).drewN m)).set (k' := k + 1) (by omega)
    simpa using this
  have hpb := hbp.symm
  have hph := hne.symm
  have HCL := Lib.hid hc.blk.lt
  clear hc hb hx
  go_enter Tryz.func162, Tryz.ntmps162
  go_wp2_with (refine HL.out.mono ?_; rintro e w1 ⟨rfl, m, rfl⟩)
  go_quiet (fail)
  go_wp2_with fail
  exact bodyPost_ret (v := .tuple #[.int .u8 x, .int .i64 0]) (by simp [results, Tryz.results162]) rfl ⟨rfl, (NC.out m).keeps ((Keeps.refl _ _).drewN nq), (((Keeps.refl _ _).drewN m).setCell (.inr (by simp)) _).drewN nq⟩

/-- What the next byte is. -/
def byteX (B : List Int) (k : Nat) : Int := (B[k]?).getD 0
def byteE (B : List Int) (k : Nat) : Int := if k < B.length then 0 else 3
def byteK (B : List Int) (k : Nat) : Nat := if k < B.length then k + 1 else k

theorem byte1_any (p h k : Nat) (v : Value) (B : List Int) (w : World) (hc : Cur w p v B k) (hb : Blk w h #[.pointer (some ⟨p, 0, none⟩)] 71) (hne : h ≠ p) :
    Calls Tryz.prog 162 #[.pointer (some ⟨h, 0, none⟩)] w (CurEnd w p v B (.int .u8 (byteX B k)) (byteE B k) (byteK B k)) := by
  by_cases hk : k < B.length
  · have e1 : byteE B k = 0 := if_pos hk
    have e2 : byteK B k = k + 1 := if_pos hk
    have hx : B[k]? = some (byteX B k) := by simp [byteX, hk]
    rw [e1, e2]
    exact byte1_some p h k v B w hc hb hne _ hx
  · have e1 : byteE B k = 3 := if_neg hk
    have e2 : byteK B k = k := if_neg hk
    have e3 : byteX B k = 0 := by simp [byteX, List.getElem?_eq_none (Nat.le_of_not_lt hk)]
    rw [e1, e2, e3]
    exact byte1_none p h k v B w hc hb (by have := hc.le; omega)
end

end Go.Proofs.YtcmagccfagijlaaGreat
