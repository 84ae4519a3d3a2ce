/-
  A cursor over bytes: Number.
-/
import Derived.Test.YtcmagccfagijlaaGreatVJ
namespace Go.Proofs.YtcmagccfagijlaaGreat
set_option linter.unusedVariables false
set_option linter.unusedSimpArgs false
set_option linter.unusedSectionVars false
open Go.RowKit

theorem varX_lt {B : List Int} {k : Nat} (h : k ≤ B.length) : varX B k < 4611686018427387904 := (varR_bound B 9 0 0 k h).1
/-- A varint of at most M. -/
def numE (B : List Int) (k M : Nat) : Int := if varE B k = 0 ∧ M < varX B k then 18 else varE B k
def numX (B : List Int) (k M : Nat) : Nat := if numE B k M = 0 then varX B k else 0
def numK (B : List Int) (k M : Nat) : Nat := if numE B k M = 0 then varK B k else k

set_option maxRecDepth 100000 in
set_option maxHeartbeats 4000000 in
theorem number1_any (p h hm k M : Nat) (v : Value) (B : List Int) (w : World) (hc : Cur w p v B k) (hb : Blk w h #[.pointer (some ⟨p, 0, none⟩)] 71) (hq : Blk w hm #[.int .i64 (M : Int)] 3) (hM : M < 4611686018427387904) (hnp : hm ≠ p) :
    Calls Tryz.prog 134 #[.pointer (some ⟨h, 0, none⟩), .pointer (some ⟨hm, 0, none⟩)] w (CurEnd w p v B (.int .i64 (varX B k : Int)) (numE B k M) (varK B k)) := by
  have HV := Lib.hid (varint_any p k v B w hc)
  have hX := varX_lt hc.le
  have HQ := Lib.hid hq
  obtain ⟨b0, -⟩ := hb.one
  have hE : Hid (numE B k M = if varE B k = 0 ∧ M < varX B k then 18 else varE B k) := rfl
  have hmx : max (M : Int) 0 = (M : Int) := by omega
  have hmm : (M : Int) % 18446744073709551616 = (M : Int) := by omega
  clear hc hb hq
  generalize varX B k = X at *
  generalize varE B k = E at *
  generalize varK B k = K at *
  generalize numE B k M = NE at *
  have hwx : IntKind.i64.wrap (X : Int) = (X : Int) := IntWalk.i64_in _ ⟨by omega, by omega⟩
  by_cases h0 : E = 0
  · subst h0
    by_cases hbig : M < X
    · have hbig' : decide ((M : Int) < (X : Int)) = true := decide_eq_true (by omega)
      have he := hE.out
      rw [if_pos ⟨rfl, hbig⟩] at he
      subst he
      go_enter Tryz.func134, Tryz.ntmps134
      go_wp2_with (refine HV.out.mono ?_; rintro e w2 ⟨rfl, cur2, k2⟩; obtain ⟨m0, -⟩ := (HQ.out.keeps k2 (by simpa using hnp)).one)
      exact bodyPost_ret (v := .tuple #[.int .i64 (X : Int), .int .i64 18]) (by simp [results, Tryz.results134]) rfl ⟨rfl, cur2, k2⟩
    · have hbig' : decide ((M : Int) < (X : Int)) = false := decide_eq_false (by omega)
      have he := hE.out
      rw [if_neg (fun h => hbig h.2)] at he
      subst he
      go_enter Tryz.func134, Tryz.ntmps134
      go_wp2_with (refine HV.out.mono ?_; rintro e w2 ⟨rfl, cur2, k2⟩; obtain ⟨m0, -⟩ := (HQ.out.keeps k2 (by simpa using hnp)).one)
      exact bodyPost_ret (v := .tuple #[.int .i64 (X : Int), .int .i64 0]) (by simp [results, Tryz.results134]) rfl ⟨rfl, cur2, k2⟩
  · have hE0 : (E == 0) = false := by simpa using h0
    have he := hE.out
    rw [if_neg (fun h => h0 h.1)] at he
    subst he
    go_enter Tryz.func134, Tryz.ntmps134
    go_wp2_with (refine HV.out.mono ?_; rintro e w2 ⟨rfl, cur2, k2⟩; obtain ⟨m0, -⟩ := (HQ.out.keeps k2 (by simpa using hnp)).one)
    exact bodyPost_ret (v := .tuple #[.int .i64 (X : Int), .int .i64 NE]) (by simp [results, Tryz.results134]) rfl ⟨rfl, cur2, k2⟩

theorem numX_iff (B : List Int) (k M : Nat) : (if numE B k M = 0 then ((varX B k : Nat) : Int) else 0) = ((numX B k M : Nat) : Int) := by
  unfold numX
  split <;> rfl

set_option maxRecDepth 100000 in
theorem number_any (p k M : Nat) (v : Value) (B : List Int) (w : World) (hc : Cur w p v B k) (hM : M < 4611686018427387904) :
    Calls Tryz.prog 94 #[.pointer (some ⟨p, 0, none⟩), .int .i64 (M : Int)] w (CurEnd w p v B (.int .i64 (numX B k M : Int)) (numE B k M) (numK B k M)) := by
  have hp := hc.old.1
  have k0 : Keeps w ((w.alloc (.cells #[.pointer (some ⟨p, 0, none⟩)] 71)).alloc (.cells #[.int .i64 (M : Int)] 3)) [] := ((Keeps.refl w []).alloc _).alloc _
  have b0 := (Blk.new w #[.pointer (some ⟨p, 0, none⟩)] 71).alloc (.cells #[.int .i64 (M : Int)] 3)
  have b1 := Blk.new (w.alloc (.cells #[.pointer (some ⟨p, 0, none⟩)] 71)) #[.int .i64 (M : Int)] 3
  simp only [World.size_alloc] at b1
  have h := readInt_any p k (varK B k) v B ((w.alloc (.cells #[.pointer (some ⟨p, 0, none⟩)] 71)).alloc (.cells #[.int .i64 (M : Int)] 3)) #[.pointer (some ⟨w.heap.size, 0, none⟩), .pointer (some ⟨w.heap.size + 1, 0, none⟩)] ((varX B k : Nat) : Int) (numE B k M) (hc.keeps k0)
    (fun w1 k1 => number1_any p w.heap.size (w.heap.size + 1) k M v B w1 ((hc.keeps k0).keeps k1) (b0.keeps k1 (by simp)) (b1.keeps k1 (by simp)) hM (by omega))
  rw [numX_iff] at h
  have H : Hid (Calls Tryz.prog 133 #[.pointer (some ⟨p, 0, none⟩), .func (.func 134) #[] #[.pointer (some ⟨w.heap.size, 0, none⟩), .pointer (some ⟨w.heap.size + 1, 0, none⟩)]] ((w.alloc (.cells #[.pointer (some ⟨p, 0, none⟩)] 71)).alloc (.cells #[.int .i64 (M : Int)] 3))
    (CurEnd ((w.alloc (.cells #[.pointer (some ⟨p, 0, none⟩)] 71)).alloc (.cells #[.int .i64 (M : Int)] 3)) p v B (.int .i64 (numX B k M : Int)) (numE B k M) (numK B k M))) := h
  clear h hc
  generalize numX B k M = X at *
  generalize numE B k M = E at *
  generalize numK B k M = K' at *
  go_enter Tryz.func94, Tryz.ntmps94
  go_wp2_with (refine H.out.mono ?_; rintro e w1 ⟨rfl, cur1, k1⟩)
  exact bodyPost_ret (v := .tuple #[.int .i64 (X : Int), .int .i64 E]) (by simp [results, Tryz.results94]) rfl ⟨rfl, cur1, (k0.mono (by simp)).trans k1 (fun j hj _ => hj)⟩

set_option maxRecDepth 100000 in
theorem new_any (v : Value) (B : List Int) (w : World) (hv : RdI .u8 w v B) (hn : B.length ≤ 1000000) (hx : ∀ x ∈ B, 0 ≤ x ∧ x ≤ 255) :
    Calls Tryz.prog 49 #[v] w fun e w' => ∃ p v', e = .returned (.pointer (some ⟨p, 0, none⟩)) ∧ w.heap.size ≤ p ∧ Cur w' p v' B 0 ∧ Keeps w w' [] := by
  have HC := Lib.hid (cloneb_any v B w hv hn)
  obtain ⟨ad, n, c, rfl, -, -⟩ := hv.form
  clear hv
  go_enter Tryz.func49, Tryz.ntmps49
  go_wp2_with (refine HC.out.mono ?_; rintro e w1 ⟨v1, rfl, own1, k1⟩; obtain ⟨a1, c1, rfl⟩ := own_form own1)
  go_ret
  have hs := k1.size
  refine ⟨_, _, rfl, hs, ⟨Blk.new w1 _ _, (own_reads own1).keeps ((Keeps.refl w1 []).alloc _), Nat.zero_le _, hn, ?_, hx⟩, k1.alloc _⟩
  rintro a n' c' he h0 hab
  cases he
  have := (own1.lt _ rfl).2
  omega

end Go.Proofs.YtcmagccfagijlaaGreat
