/-
  A cursor over bytes: Left; the calls through num.read.
-/
import Derived.Test.YtophgpnnjphnmaaGreatQ2
import Derived.Test.YtophgpnnjphnmaaGreatQ6
import Derived.BigQuiet
import Derived.Deep.QuietTactic
import Derived.Laws.EntriesVeiled
namespace Go.Proofs.YtophgpnnjphnmaaGreat
set_option linter.unusedVariables false
set_option linter.unusedSimpArgs false
set_option linter.unusedSectionVars false
open Go.RowKit

theorem own_freshB {w : World} {base : Nat} {v : Value} {l : List Int} (h : OwnB w base v l) : Fresh base v := fun ad n c e => by
  subst e
  exact (h.lt ad.block rfl).1

/-- A cursor at block p: the slice v holds the bytes B, k of them are read. -/
structure Cur (w : World) (p : Nat) (v : Value) (B : List Int) (k : Nat) : Prop where
  blk : Blk w p #[v, .int .i64 (k : Int)] 69
  rd : RdI .u8 w v B
  le : k ≤ B.length
  len : B.length ≤ 1000000
  ne : ∀ ad n c, v = .slice (some ad) n c → 0 < n → ad.block ≠ p
  byte : ∀ x ∈ B, 0 ≤ x ∧ x ≤ 255

theorem Cur.keeps {w w' : World} {p k : Nat} {v : Value} {B : List Int} (h : Cur w p v B k) (kk : Keeps w w' []) : Cur w' p v B k :=
  ⟨h.blk.keeps kk (by simp), h.rd.keeps kk, h.le, h.len, h.ne, h.byte⟩
theorem Cur.keepsS {w w' : World} {p k : Nat} {v : Value} {B : List Int} {S : List Nat} (h : Cur w p v B k) (kk : Keeps w w' S) (hp : p ∉ S) (hv : ∀ ad n c, v = .slice (some ad) n c → 0 < n → ad.block ∉ S) : Cur w' p v B k :=
  ⟨h.blk.keeps kk hp, h.rd.keepsS kk hv, h.le, h.len, h.ne, h.byte⟩
theorem Cur.set {w : World} {p k : Nat} {v : Value} {B : List Int} (h : Cur w p v B k) {k' : Nat} (hk : k' ≤ B.length) : Cur (w.setCell ⟨p, 1, none⟩ (.int .i64 (k' : Int))) p v B k' := by
  refine ⟨by have := h.blk.set 1 (.int .i64 (k' : Int)); simpa using this, ?_, hk, h.len, h.ne, h.byte⟩
  exact h.rd.keepsS (S := [p]) ((Keeps.refl w [p]).setCell (.inr (by simp)) _) (fun ad n c e hn hm => h.ne ad n c e hn (by simpa using hm))
/-- The blocks of the slice and of the cursor are older than b. -/
theorem Cur.old {w : World} {p k : Nat} {v : Value} {B : List Int} (h : Cur w p v B k) : p < w.heap.size ∧ ∀ ad n c, v = .slice (some ad) n c → 0 < n → ad.block < w.heap.size := by
  refine ⟨h.blk.lt, fun ad n c e hn => ?_⟩
  subst e
  obtain ⟨b, o, he, hb, -⟩ := h.rd.addr hn
  cases he
  exact hb

theorem Cur.cells {w : World} {p k : Nat} {v : Value} {B : List Int} (h : Cur w p v B k) : w.cell? ⟨p, 0, none⟩ = some v ∧ w.cell? ⟨p, 1, none⟩ = some (.int .i64 (k : Int)) ∧ w.frozen? ⟨p, 1, none⟩ = false :=
  ⟨h.blk.cell 0, h.blk.cell 1, h.blk.frozen 1⟩

set_option maxRecDepth 100000 in
theorem left_any (p k : Nat) (v : Value) (B : List Int) (w : World) (h : Cur w p v B k) :
    Calls Tryz.prog 51 #[.pointer (some ⟨p, 0, none⟩)] w fun e w' => e = .returned (.int .i64 ((B.length : Int) - (k : Int))) ∧ ∃ m, w' = w.drewN m := by
  obtain ⟨c0, c1, -⟩ := h.cells
  have hle := h.le
  have hlen := h.len
  obtain ⟨ad, n, c, rfl, rfl, -⟩ := h.rd.form
  clear h
  go_enter Tryz.func51, Tryz.ntmps51
  go_wp2_with fail
  go_quiet (fail)
  go_wp2_with fail
  go_ret
  exact ⟨rfl, _, rfl⟩

/-- What a call that reads bytes gives: the value x, the error n, the cursor at k'. -/
def CurEnd (w : World) (p : Nat) (v : Value) (B : List Int) (x : Value) (n : Int) (k' : Nat) (e : Ending) (w' : World) : Prop :=
  e = .returned (.tuple #[x, .int .i64 n]) ∧ Cur w' p v B k' ∧ Keeps w w' [p]

set_option maxRecDepth 100000 in
theorem byte1_none (p h k : Nat) (v : Value) (B : List Int) (w : World) (hc : Cur w p v B k) (hb : Blk w h #[.pointer (some ⟨p, 0, none⟩)] 44) (hk : k = B.length) :
    Calls Tryz.prog 79 #[.pointer (some ⟨h, 0, none⟩)] w (CurEnd w p v B (.int .u8 0) 3 k) := by
  have HC := Lib.hid hc
  have HL := Lib.hid (left_any p k v B w hc)
  obtain ⟨b0, -⟩ := hb.one
  have hz : ((B.length : Int) - (k : Int) == 0) = true := by simp; omega
  clear hc hb hk
  go_enter Tryz.func79, Tryz.ntmps79
  go_wp2_with (refine HL.out.mono ?_; rintro e w1 ⟨rfl, m, rfl⟩)
  exact bodyPost_ret (v := .tuple #[.int .u8 0, .int .i64 3]) (by simp [results, Tryz.results79]) rfl ⟨rfl, HC.out.keeps ((Keeps.refl _ _).drewN m), (Keeps.refl _ _).drewN m⟩

set_option maxRecDepth 100000 in
set_option maxHeartbeats 1000000 in
theorem byte1_some (p h k : Nat) (v : Value) (B : List Int) (w : World) (hc : Cur w p v B k) (hb : Blk w h #[.pointer (some ⟨p, 0, none⟩)] 44) (hne : h ≠ p) (x : Int) (hx : B[k]? = some x) :
    Calls Tryz.prog 79 #[.pointer (some ⟨h, 0, none⟩)] w (CurEnd w p v B (.int .u8 x) 0 (k + 1)) := by
  have HL := Lib.hid (left_any p k v B w hc)
  have hk := (List.getElem?_eq_some_iff.1 hx).1
  have hlen := hc.len
  have hnz : ((B.length : Int) - (k : Int) == 0) = false := by simp; omega
  obtain ⟨ad, n, c, rfl, hn, -⟩ := hc.rd.form
  obtain ⟨b, o, rfl, hbl, hcx⟩ := hc.rd.at hx
  have hcap := hc.rd.cap
  have hbp : b ≠ p := hc.ne _ _ _ rfl (by omega)
  have hin : (k : Int) < (n : Int) := by omega
  obtain ⟨d0, -⟩ := hb.one
  obtain ⟨c0, c1, f1⟩ := hc.cells
  have NC : Hid (∀ m, Cur ((w.drewN m).setCell ⟨p, 1, none⟩ (.int .i64 ((k : Int) + 1))) p (.slice (some ⟨b, o, none⟩) n c) B (k + 1)) := fun m => by
    have := (hc.keeps ((Keeps.refl _ _).drewN m)).set (k' := k + 1) (by omega)
    simpa using this
  have hpb := hbp.symm
  have hph := hne.symm
  have HCL := Lib.hid hc.blk.lt
  clear hc hb hx
  go_enter Tryz.func79, Tryz.ntmps79
  go_wp2_with (refine HL.out.mono ?_; rintro e w1 ⟨rfl, m, rfl⟩)
  go_quiet (fail)
  go_wp2_with fail
  exact bodyPost_ret (v := .tuple #[.int .u8 x, .int .i64 0]) (by simp [results, Tryz.results79]) rfl ⟨rfl, (NC.out m).keeps ((Keeps.refl _ _).drewN nq), (((Keeps.refl _ _).drewN m).setCell (.inr (by simp)) _).drewN nq⟩

/-- What the next byte is. -/
def byteX (B : List Int) (k : Nat) : Int := (B[k]?).getD 0
def byteE (B : List Int) (k : Nat) : Int := if k < B.length then 0 else 3
def byteK (B : List Int) (k : Nat) : Nat := if k < B.length then k + 1 else k

theorem byte1_any (p h k : Nat) (v : Value) (B : List Int) (w : World) (hc : Cur w p v B k) (hb : Blk w h #[.pointer (some ⟨p, 0, none⟩)] 44) (hne : h ≠ p) :
    Calls Tryz.prog 79 #[.pointer (some ⟨h, 0, none⟩)] w (CurEnd w p v B (.int .u8 (byteX B k)) (byteE B k) (byteK B k)) := by
  by_cases hk : k < B.length
  · have e1 : byteE B k = 0 := if_pos hk
    have e2 : byteK B k = k + 1 := if_pos hk
    have hx : B[k]? = some (byteX B k) := by simp [byteX, hk]
    rw [e1, e2]
    exact byte1_some p h k v B w hc hb hne _ hx
  · have e1 : byteE B k = 3 := if_neg hk
    have e2 : byteK B k = k := if_neg hk
    have e3 : byteX B k = 0 := by simp [byteX, List.getElem?_eq_none (Nat.le_of_not_lt hk)]
    rw [e1, e2, e3]
    exact byte1_none p h k v B w hc hb (by have := hc.le; omega)


end Go.Proofs.YtophgpnnjphnmaaGreat
