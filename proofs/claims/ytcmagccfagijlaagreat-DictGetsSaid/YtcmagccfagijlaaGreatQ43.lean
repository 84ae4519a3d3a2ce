/-
  Plain: what a full dictionary says at an offset, in the whole bytes or in their tail. No program in sight.
  Walks over package dict: Get whole.
  Walks over the references that read a full dictionary: GetWord, repeats; Bytes at any number.
  Walks over the reference of dictionaries: repeats. (Printed by mkGg.py.)
  Plain: positions that a decoder leaves lie within the bytes. Walk: reference 16's Get, with the freshness of its tree. (Printed by mkGh.py.)
  Plain: further bytes behind a full dictionary change nothing that is read, and are refused at its end. No program in sight.
-/
import Derived.Test.YtcmagccfagijlaaGreatQ42
import Derived.Test.YtcmagccfagijlaaGreatQ11
import Derived.Test.YtcmagccfagijlaaGreatQ30
import Derived.Test.YtcmagccfagijlaaGreatQ38
import Derived.Test.YtcmagccfagijlaaGreatQ31
namespace Go.Proofs.YtcmagccfagijlaaGreat
section
set_option linter.unusedVariables false
set_option linter.unusedSimpArgs false
open Go.RowKit

section
variable {B : List Int} {s : Nat}
theorem sh_bytesE (hs : s ≤ B.length) (k : Nat) (m : Int) : bytesE B (k + s) m = bytesE (B.drop s) k m := by
  unfold bytesE
  rw [show (B.length : Int) - ((k + s : Nat) : Int) = ((B.drop s).length : Int) - (k : Int) by simp; omega]
theorem sh_drop (k : Nat) : B.drop (k + s) = (B.drop s).drop k := by rw [List.drop_drop, Nat.add_comm]
theorem sh_bytesX (hs : s ≤ B.length) (k : Nat) (m : Int) : bytesX B (k + s) m = bytesX (B.drop s) k m := by
  unfold bytesX; rw [sh_bytesE hs, sh_drop]
theorem sh_bytesK (hs : s ≤ B.length) (k : Nat) (m : Int) : bytesK B (k + s) m = bytesK (B.drop s) k m + s := by
  unfold bytesK; rw [sh_bytesE hs]; split <;> omega
theorem sh_byteX (k : Nat) : byteX B (k + s) = byteX (B.drop s) k := by
  unfold byteX; rw [List.getElem?_drop, Nat.add_comm]
def shV (s : Nat) (r : Nat × Int × Nat) : Nat × Int × Nat := (r.1, r.2.1, r.2.2 + s)
theorem sh_varR' : ∀ (f x c k : Nat), varR B f x c (k + s) = shV s (varR (B.drop s) f x c k) := by
  intro f
  induction f with
  | zero => intro x c k; rfl
  | succ f ih =>
    intro x c k
    unfold varR
    rw [sh_byteX, List.length_drop, show k + s + 1 = k + 1 + s by omega]
    by_cases h : k + s < B.length
    · rw [if_pos h, if_pos (show k < B.length - s by omega)]
      split
      · exact ih _ _ _
      split
      · rfl
      split
      · rfl
      · rfl
    · rw [if_neg h, if_neg (show ¬ k < B.length - s by omega)]
      rfl
theorem sh_varR (f x c k : Nat) : varR B f x c (k + s) = ((varR (B.drop s) f x c k).1, (varR (B.drop s) f x c k).2.1, (varR (B.drop s) f x c k).2.2 + s) := sh_varR' f x c k
theorem sh_varE (k : Nat) : varE B (k + s) = varE (B.drop s) k := by unfold varE; rw [sh_varR]
theorem sh_varX (k : Nat) : varX B (k + s) = varX (B.drop s) k := by unfold varX; rw [sh_varR]
theorem sh_varK (k : Nat) : varK B (k + s) = varK (B.drop s) k + s := by unfold varK; rw [sh_varE, sh_varR]; split <;> rfl
theorem sh_numE (k M : Nat) : numE B (k + s) M = numE (B.drop s) k M := by unfold numE; rw [sh_varE, sh_varX]
theorem sh_numX (k M : Nat) : numX B (k + s) M = numX (B.drop s) k M := by unfold numX; rw [sh_numE, sh_varX]
theorem sh_numK (k M : Nat) : numK B (k + s) M = numK (B.drop s) k M + s := by unfold numK; rw [sh_numE, sh_varK]; split <;> rfl
theorem sh_halvE (hs : s ≤ B.length) (k m : Nat) : halvE B (k + s) m = halvE (B.drop s) k m := by unfold halvE; rw [sh_bytesE hs, sh_bytesX hs]
theorem sh_halvX (hs : s ≤ B.length) (k m : Nat) : halvX B (k + s) m = halvX (B.drop s) k m := by unfold halvX; rw [sh_bytesX hs]
theorem sh_codedR (hs : s ≤ B.length) (k m : Nat) : codedR B (k + s) m = ((codedR (B.drop s) k m).1, (codedR (B.drop s) k m).2 + s) := by
  unfold codedR
  rw [sh_drop]
  rcases hd : descP (((B.drop s).drop k).take 1024) 12 6 with e | ⟨g, norm, nb⟩
  · rfl
  · simp only
    rw [show k + s + nb = (k + nb) + s by omega, sh_numE, sh_numK, sh_numX, sh_bytesE hs, sh_bytesK hs, sh_bytesX hs]
    split
    · rfl
    · split
      · rfl
      · rfl
/-- The position moved on. -/
def upR {α : Type} (s : Nat) : Except Int (α × Nat) → Except Int (α × Nat)
  | .ok (x, k) => .ok (x, k + s)
  | .error n => .error n
theorem sh_finW (L : List Int) (K : Nat) : finW L (K + s) = upR s (finW L K) := by unfold finW; split <;> rfl
theorem sh_getW (hs : s ≤ B.length) (k : Nat) : getW B (k + s) = upR s (getW (B.drop s) k) := by
  unfold getW
  rw [sh_numE, sh_numX, sh_numK, sh_byteX, List.length_drop]
  split
  · rfl
  split
  · rfl
  by_cases h : B.length ≤ numK (B.drop s) k 255 + s
  · rw [if_pos h, if_pos (show B.length - s ≤ numK (B.drop s) k 255 by omega)]; rfl
  rw [if_neg h, if_neg (show ¬ B.length - s ≤ numK (B.drop s) k 255 by omega)]
  rw [show numK (B.drop s) k 255 + s + 1 = (numK (B.drop s) k 255 + 1) + s by omega, sh_halvE hs, sh_halvX hs, sh_bytesK hs, sh_codedR hs]
  split
  · split
    · rfl
    · exact sh_finW _ _
  split
  · simp only
    split
    · rfl
    · exact sh_finW _ _
  · rfl
theorem sh_repR (k : Nat) : repR B (k + s) = upR s (repR (B.drop s) k) := by
  unfold repR
  rw [sh_varE, sh_varX, sh_varK]
  split
  · rfl
  split
  · rfl
  · rfl
theorem sh_contR : ∀ (f k : Nat) (acc : List Nat), contR B f (k + s) acc = upR s (contR (B.drop s) f k acc) := by
  intro f
  induction f with
  | zero => intro k acc; rfl
  | succ f ih =>
    intro k acc
    unfold contR
    rw [sh_repR]
    rcases repR (B.drop s) k with n | ⟨x, k'⟩
    · rfl
    · exact ih k' _
theorem sh_conR (hs : s ≤ B.length) (k : Nat) (a b c : Int) : conR B (k + s) a b c = upR s (conR (B.drop s) k a b c) := by
  unfold conR
  rw [sh_numE, sh_numX, sh_numK, sh_bytesE hs, sh_bytesX hs, sh_bytesK hs]
  split
  · rfl
  split
  · rfl
  split
  · rfl
  · rfl
theorem sh_getD3 (hs : s ≤ B.length) (k : Nat) (d : DD) : getD3 B (k + s) d = getD3 (B.drop s) k d := by
  unfold getD3
  rw [sh_contR]
  rcases contR (B.drop s) 3 k [] with n | ⟨acc, k1⟩
  · rfl
  · simp only [upR]
    rw [sh_conR hs]
    rcases conR (B.drop s) k1 _ _ _ with n | ⟨X, k2⟩
    · rfl
    · simp only [upR, List.length_drop]
      by_cases h : k2 + s = B.length
      · rw [if_pos h, if_pos (by omega)]
      · rw [if_neg h, if_neg (by omega)]
theorem sh_getD2 (hs : s ≤ B.length) (k : Nat) (d : DD) : getD2 B (k + s) d = getD2 (B.drop s) k d := by
  unfold getD2
  rw [sh_drop]
  rcases descP (((B.drop s).drop k).take 1024) 28 8 with n | ⟨g2, L2, m2⟩
  · rfl
  simp only
  rw [show k + s + m2 = k + m2 + s by omega, sh_drop]
  rcases descP (((B.drop s).drop (k + m2)).take 1024) 44 9 with n | ⟨g3, L3, m3⟩
  · rfl
  simp only
  rw [show k + m2 + s + m3 = k + m2 + m3 + s by omega, sh_drop]
  rcases descP (((B.drop s).drop (k + m2 + m3)).take 1024) 44 9 with n | ⟨g1, L1, m1⟩
  · rfl
  simp only
  rw [show k + m2 + m3 + s + m1 = k + m2 + m3 + m1 + s by omega, sh_getD3 hs]
theorem sh_getD (hs : s ≤ B.length) (k : Nat) : getD B (k + s) = getD (B.drop s) k := by
  unfold getD
  rw [sh_bytesE hs, sh_bytesX hs, sh_bytesK hs, sh_getW hs]
  split
  · rfl
  split
  · rfl
  rcases getW (B.drop s) (bytesK (B.drop s) k 4) with n | ⟨T, k1⟩
  · rfl
  · simp only [upR]
    exact sh_getD2 hs _ _
end

/-- What bytes say: a raw dictionary, a full one, or the error. -/
def getA (l : List Int) : Except Int DD := if markB l = true then getD l 4 else .ok ⟨0, [], 0, [], 0, [], 0, [], 1, 4, 8, l⟩
end

section
set_option linter.unusedVariables false
set_option linter.unusedSimpArgs false
set_option linter.unusedSectionVars false
open Go.RowKit

/-- The deferred function of Get where it returns: it does nothing. -/
theorem dget_idle (p q : Addr) (w : World) :
    CallsD Tryz.prog 47 #[.pointer (some p), .pointer (some q)] .returning w fun e u' w' => e = .returned (.tuple #[]) ∧ u' = .returning ∧ w' = w := by
  refine callsD_of_wpS Tryz.func47 rfl fun c₀ cs hu => ?_
  simp only [Tryz.ntmps47, List.size_toArray, List.length_cons, List.length_nil, Nat.reduceAdd, Nat.reduceSub, Array.replicate_succ, Array.replicate_zero, List.push_toArray, List.append_toArray, List.nil_append, List.cons_append]
  apply wpS_seq
  apply wpS_region
  simp [wpOpsS, go_sem, recoverD, hu, Exit.thenS]
  refine wpS_of_wp ?_
  have HU := Lib.hid hu
  clear hu
  go_wp2
  refine ⟨rfl, .returning, ?_, .tuple #[], by simp [results, Tryz.results47], rfl, rfl, rfl⟩
  have hu := HU.out
  cases c₀
  simp_all

def GotA (w : World) (R : Except Int DD) (e : Ending) (w' : World) : Prop :=
  Keeps w w' [] ∧ match R with
    | .ok D => ∃ t n1 n2 n3 x, e = .returned (.tuple #[.agg (dictC D.id t D.g1 n1 D.g2 n2 D.g3 n3 D.a D.b D.c x), .int .i64 0]) ∧ (RdI .i64 w' t D.T ∧ RdI .i64 w' n1 D.L1 ∧ RdI .i64 w' n2 D.L2 ∧ RdI .i64 w' n3 D.L3 ∧ RdI .u8 w' x D.X) ∧ Fresh w.heap.size t ∧ Fresh w.heap.size n1 ∧ Fresh w.heap.size n2 ∧ Fresh w.heap.size n3 ∧ Fresh w.heap.size x
    | .error n => n ≠ 0 ∧ e = .returned (.tuple #[.agg zeroC, .int .i64 n])

set_option maxRecDepth 100000 in
set_option maxHeartbeats 4000000 in
theorem get_full (v : Value) (l : List Int) (w : World) (hv : RdI .u8 w v l) (hl : ∀ x ∈ l, 0 ≤ x ∧ x ≤ 255) (hn : l.length ≤ 100000) (hm : markB l = true) :
    Calls Tryz.prog 24 #[v] w (GotA w (getD l 4)) := by
  have hmf : ∀ (fn : Fn) (first cap : Array Value) (w : World), (Instr.makeFunc fn first cap).run Tryz.prog w = .ok (.func fn first cap) w := fun _ _ _ _ => rfl
  have HM := Lib.hid (fun w1 (k : Keeps w w1 []) => marked_any v l w1 (hv.keeps k) hl)
  rw [hm] at HM
  have h4 : 4 ≤ l.length := by
    have := congrArg List.length (of_decide_eq_true hm)
    simp at this; omega
  obtain ⟨r, hr0, rr⟩ := slice_tail hv (i := 4) h4
  have hr : ∀ w, (Instr.slice 22 v (some (.int .i64 4)) none none).run Tryz.prog w = .ok r w := hr0
  have HNW := Lib.hid (fun w1 (k : Keeps w w1 []) => new_any r (l.drop 4) w1 (rr.keeps k) (by simp; omega) (fun x hx => hl x (List.mem_of_mem_drop hx)))
  obtain ⟨R, hR⟩ : ∃ R, getD l 4 = R := ⟨_, rfl⟩
  have HF : Hid (∀ W p v', Cur W p v' (l.drop 4) 0 → Calls Tryz.prog 48 #[.pointer (some ⟨p, 0, none⟩)] W (GotD W p R)) := Lib.hid (fun W p v' hc => by
    have := full_any p 0 v' (l.drop 4) W hc (by simp; omega)
    rw [← sh_getD h4, Nat.zero_add, hR] at this
    exact this)
  rw [hR]
  obtain ⟨A0, m, c, rfl, -, -⟩ := hv.form
  have k0 : Keeps w ((w.alloc (.cells zeroC 32)).alloc (.cells #[.int .i64 0] 33)) [] := ((Keeps.refl w []).alloc _).alloc _
  have bd := (Blk.new w zeroC 32).alloc (.cells #[.int .i64 0] 33)
  have be := Blk.new (w.alloc (.cells zeroC 32)) #[.int .i64 0] 33
  simp only [World.size_alloc] at be
  clear hv hl hm hn rr hr0 h4 hR
  rcases R with n | D
  · unfold GotD at HF
    simp only at HF
    go_enter_defers Tryz.func24, Tryz.ntmps24
    go_wp2_with (first
      | (go_at_call 31; go_loud (refine (HM.out _ k0).mono ?_; rintro e w1 ⟨rfl, k1⟩; have bd1 := bd.keeps k1 (by simp); have be1 := be.keeps k1 (by simp); have kw1 := k0.then k1))
      | (go_at_call 49; go_loud (refine (HNW.out _ kw1).mono ?_; rintro e w2 ⟨p, v2, rfl, hp, cur2, k2⟩; have bd2 := bd1.keeps k2 (by simp); have be2 := be1.keeps k2 (by simp); have kw2 := kw1.then k2))
      | (go_at_call 48; go_loud (refine (HF.out _ _ _ cur2).mono ?_; rintro e w3 ⟨k3, hn0, rfl⟩)))
    have l1 := be1.lt
    have hs := kw1.size
    have bd3 := bd2.keeps k3 (by simp; omega)
    have be3 := be2.keeps k3 (by simp; omega)
    have kw3 := kw2.trans k3 (fun j hj hlt => by simp at hj; omega)
    refine leaves_cons (f := 47) (args := #[.pointer (some ⟨w.heap.size, 0, none⟩), .pointer (some ⟨w.heap.size + 1, 0, none⟩)]) (by simp) (by simp [go_sem]) ?_
    refine (dget_back _ _ n _ [] _ bd3 be3 (by omega)).mono ?_
    rintro e u' w4 ⟨rfl, rfl, bd4, be4, k4⟩
    exact ⟨.tuple #[.agg zeroC, .int .i64 n], res_cell_cell rfl rfl rfl (load_dict bd4 rfl) (load_errno be4), kw3.trans k4 (fun j hj hlt => by simp at hj; omega), hn0, rfl⟩
  · unfold GotD at HF
    simp only at HF
    obtain ⟨id, T, g1, L1, g2, L2, g3, L3, a, b, c', X⟩ := D
    simp only at HF
    go_enter_defers Tryz.func24, Tryz.ntmps24
    go_wp2_with (first
      | (go_at_call 31; go_loud (refine (HM.out _ k0).mono ?_; rintro e w1 ⟨rfl, k1⟩; have bd1 := bd.keeps k1 (by simp); have be1 := be.keeps k1 (by simp); have kw1 := k0.then k1))
      | (go_at_call 49; go_loud (refine (HNW.out _ kw1).mono ?_; rintro e w2 ⟨p, v2, rfl, hp, cur2, k2⟩; have bd2 := bd1.keeps k2 (by simp); have be2 := be1.keeps k2 (by simp); have kw2 := kw1.then k2; have l1 := be1.lt; have hs := kw1.size))
      | (go_at_call 48; go_loud (refine (HF.out _ _ _ cur2).mono ?_; rintro e w3 ⟨k3, t, n1, n2, n3, x, rfl, rt, r1, r2, r3, rx, ft, f1, f2, f3, fx⟩; obtain ⟨ta, tm, tc, rfl, -, -⟩ := rt.form; obtain ⟨a1, m1, c1, rfl, -, -⟩ := r1.form; obtain ⟨a2, m2, c2, rfl, -, -⟩ := r2.form; obtain ⟨a3, m3, c3, rfl, -, -⟩ := r3.form; obtain ⟨xa, xm, xc, rfl, -, -⟩ := rx.form; have bd3 := bd2.keeps k3 (by simp; omega); have be3 := be2.keeps k3 (by simp; omega); have kw3 := kw2.trans k3 (fun j hj hlt => by simp at hj; omega); have RR := Lib.hid (And.intro rt (And.intro r1 (And.intro r2 (And.intro r3 rx)))); have FF := Lib.hid (And.intro ft (And.intro f1 (And.intro f2 (And.intro f3 fx)))); have hs2 := kw2.size; clear rt r1 r2 r3 rx ft f1 f2 f3 fx))
      | (refine wpList_store_blk rfl 32 _ _ rfl w.heap.size (dictC id (.slice ta tm tc) g1 (.slice a1 m1 c1) g2 (.slice a2 m2 c2) g3 (.slice a3 m3 c3) a b c' (.slice xa xm xc)) rfl rfl _ _ bd3 dict_size rfl (by simp [Value.oneCell']) ?_; intro W3 bd4 k4; have be4 := be3.keeps k4 (by simp); obtain ⟨e3, e4⟩ := be4.one))
    have kf : Keeps W3 (W3.setCell ⟨w.heap.size + 1, 0, none⟩ (.int .i64 0)) [w.heap.size + 1] := (Keeps.refl _ _).setCell (.inr (by simp)) _
    have bd5 := bd4.keeps kf (by simp)
    have be5 := zone be4 (.int .i64 0)
    have hs1 : w.heap.size + 1 < w2.heap.size := be2.lt
    obtain ⟨ft, f1, f2, f3, fx⟩ := FF.out
    obtain ⟨rt, r1, r2, r3, rx⟩ := RR.out
    refine leaves_cons (f := 47) (args := #[.pointer (some ⟨w.heap.size, 0, none⟩), .pointer (some ⟨w.heap.size + 1, 0, none⟩)]) (by simp) (by simp [go_sem]) ?_
    refine (dget_idle _ _ _).mono ?_
    rintro e u' w5 ⟨rfl, rfl, rfl⟩
    have g0 : w.heap.size < w2.heap.size := by omega
    exact ⟨.tuple #[.agg (dictC id (.slice ta tm tc) g1 (.slice a1 m1 c1) g2 (.slice a2 m2 c2) g3 (.slice a3 m3 c3) a b c' (.slice xa xm xc)), .int .i64 0], res_cell_cell rfl rfl rfl (load_dict bd5 rfl) (load_errno be5),
      (kw3.trans k4 (fun j hj hlt => by simp at hj; omega)).trans kf (fun j hj hlt => by simp at hj; omega), _, _, _, _, _, rfl,
      ⟨(rt.past ft k4 g0).past ft kf hs1, (r1.past f1 k4 g0).past f1 kf hs1, (r2.past f2 k4 g0).past f2 kf hs1, (r3.past f3 k4 g0).past f3 kf hs1, (rx.past fx k4 g0).past fx kf hs1⟩,
      ft.mono hs2, f1.mono hs2, f2.mono hs2, f3.mono hs2, fx.mono hs2⟩

theorem get_all (v : Value) (l : List Int) (w : World) (hv : RdI .u8 w v l) (hl : ∀ x ∈ l, 0 ≤ x ∧ x ≤ 255) (hn : l.length ≤ 100000) :
    Calls Tryz.prog 24 #[v] w (GotA w (getA l)) := by
  unfold getA
  by_cases hm : markB l = true
  · rw [if_pos hm]; exact get_full v l w hv hl hn hm
  · rw [if_neg hm]
    refine (get_raw v l w hv hl (by omega) (by simpa using hm)).mono ?_
    rintro e w' ⟨x, rfl, rx, fx, kk⟩
    exact ⟨kk, _, _, _, _, _, rfl, ⟨.nil, .nil, .nil, .nil, rx⟩, .nil, .nil, .nil, .nil, fx⟩
end

section
set_option linter.unusedVariables false
set_option linter.unusedSimpArgs false
set_option linter.unusedSectionVars false
open Go.RowKit

theorem wordL_four (a b c d : Int) : wordL [a, b, c, d] = 256 * (256 * (256 * d + c) + b) + a := by
  have : wordL [a, b, c, d] = (((0 * 256 + d) * 256 + c) * 256 + b) * 256 + a := rfl
  rw [this]; omega
theorem four_at {B : List Int} {k : Nat} (h : k + 4 ≤ B.length) : ∃ a b c d, (B.drop k).take 4 = [a, b, c, d] ∧ B[k]? = some a ∧ B[k + 1]? = some b ∧ B[k + 2]? = some c ∧ B[k + 3]? = some d := by
  refine ⟨B[k], B[k + 1], B[k + 2], B[k + 3], ?_, by simp, by simp, by simp, by simp⟩
  apply List.ext_getElem
  · simp; omega
  · intro i h1 h2
    simp at h2
    have : i = 0 ∨ i = 1 ∨ i = 2 ∨ i = 3 := by omega
    rcases this with rfl | rfl | rfl | rfl <;> simp

/-- What GetWord says at 4. -/
def wdX (B : List Int) : Int := if bytesE B 4 4 = 0 then wordL (bytesX B 4 4) else 0

set_option maxRecDepth 100000 in
set_option maxHeartbeats 2000000 in
theorem rgword_4 (v : Value) (B : List Int) (w : World) (hv : RdI .u8 w v B) (hl : B.length ≤ 1000000) (hb : ∀ x ∈ B, 0 ≤ x ∧ x ≤ 255) (h4 : 4 ≤ B.length) :
    Calls Tryz.prog 50 #[v, .int .i64 4] w fun e w' => e = .returned (.tuple #[.int .u32 (wdX B), .int .i64 (bytesK B 4 4 : Nat), .int .i64 (bytesE B 4 4)]) ∧ Keeps w w' [] := by
  obtain ⟨A0, n, cp, rfl, hn, -⟩ := hv.form
  by_cases hE : 8 ≤ B.length
  · have hE0 : bytesE B 4 4 = 0 := by unfold bytesE; rw [if_neg (by omega), if_neg (by omega)]
    have hX : bytesX B 4 4 = (B.drop 4).take 4 := by unfold bytesX; rw [if_pos hE0]; rfl
    have hK : bytesK B 4 4 = 8 := by unfold bytesK; rw [if_pos hE0]; rfl
    obtain ⟨x0, x1, x2, x3, e4, q0, q1, q2, q3⟩ := four_at (B := B) (k := 4) (by omega)
    obtain ⟨b0, o, rfl, hbb, hc⟩ := hv.addr (by omega)
    have c0 := hc _ _ q0
    have c1 := hc _ _ q1
    have c2 := hc _ _ q2
    have c3 := hc _ _ q3
    have y0 := hb x0 (List.mem_of_getElem? q0)
    have y1 := hb x1 (List.mem_of_getElem? q1)
    have y2 := hb x2 (List.mem_of_getElem? q2)
    have y3 := hb x3 (List.mem_of_getElem? q3)
    have HF : Hid (wdX B = 256 * (256 * (256 * x3 + x2) + x1) + x0) := Lib.hid (by unfold wdX; rw [if_pos hE0, hX, e4, wordL_four])
    have HG := Lib.hid (And.intro hE0 hK)
    have n8 : 8 ≤ n := by omega
    have nm : n ≤ 1000000 := by omega
    have hw1 : wrap64 ((n : Int) - 4) = (n : Int) - 4 := IntWalk.wrap64_in _ ⟨by omega, by omega⟩
    have hlt : decide ((n : Int) - 4 < 4) = false := decide_eq_false (by omega)
    have i7 : (7 : Int) < (n : Int) := by omega
    have i6 : (6 : Int) < (n : Int) := by omega
    have i5 : (5 : Int) < (n : Int) := by omega
    have i4 : (4 : Int) < (n : Int) := by omega
    have z3 : IntKind.u32.wrap x3 = x3 := by simp [IntKind.wrap, IntKind.signed, IntKind.bits]; omega
    clear hE0 hX hK hc e4 q0 q1 q2 q3 hb hv hn hl h4 hE
    go_enter Tryz.func50, Tryz.ntmps50
    go_wp2_with fail
    refine wp_loop_rounds 5 ?_
    rw [rounds_succ]
    go_wp2_with fail
    rw [rounds_succ]
    go_wp2_with fail
    rw [rounds_succ]
    go_wp2_with fail
    rw [rounds_succ]
    go_wp2_with fail
    rw [rounds_succ]
    go_wp2_with fail
    obtain ⟨hE0, hK⟩ := HG.out
    rw [HF.out, hE0, hK]
    exact bodyPost_ret (v := .tuple #[.int .u32 (256 * (256 * (256 * x3 + x2) + x1) + x0), .int .i64 8, .int .i64 0]) (by simp only [results, Tryz.results50]; go_simp) rfl ⟨rfl, Keeps.refl _ _⟩
  · have hE0 : bytesE B 4 4 = 3 := by unfold bytesE; rw [if_neg (by omega), if_pos (by omega)]
    have hK : bytesK B 4 4 = 4 := by unfold bytesK; rw [if_neg (by rw [hE0]; decide)]
    have hX : wdX B = 0 := by unfold wdX; rw [if_neg (by rw [hE0]; decide)]
    have HF := Lib.hid (show _ ∧ _ ∧ _ from ⟨hE0, hX, hK⟩)
    have n8 : n < 8 := by omega
    have n4 : 4 ≤ n := by omega
    have hw1 : wrap64 ((n : Int) - 4) = (n : Int) - 4 := IntWalk.wrap64_in _ ⟨by omega, by omega⟩
    have hlt : (n : Int) - 4 < 4 := by omega
    clear hE0 hX hK hv hn hE
    go_enter Tryz.func50, Tryz.ntmps50
    go_wp2_with fail
    obtain ⟨hE0, hX, hK⟩ := HF.out
    exact bodyPost_ret (v := .tuple #[.int .u32 0, .int .i64 4, .int .i64 3]) (by simp only [results, Tryz.results50]; go_simp) rfl ⟨by rw [hE0, hX, hK]; rfl, Keeps.refl _ _⟩
end

section
set_option linter.unusedVariables false
set_option linter.unusedSimpArgs false
set_option linter.unusedSectionVars false
open Go.RowKit

theorem contR_err {B : List Int} {f k : Nat} {acc : List Nat} {n : Int} (h : repR B k = .error n) : contR B (f + 1) k acc = .error n := by
  unfold contR; rw [h]
theorem contR_ok {B : List Int} {f k k' x : Nat} {acc : List Nat} (h : repR B k = .ok (x, k')) : contR B (f + 1) k acc = contR B f k' (acc ++ [x]) := by
  rw [contR, h]
theorem varK_le {B : List Int} {k : Nat} (h : k ≤ B.length) : varK B k ≤ B.length := by
  have h1 := (varR_bound B 9 0 0 k h).2.2
  unfold varK
  split
  · exact h1
  · exact h
theorem arr_size : (Tryz.prog.info? 28).map (·.size) = some 3 := by kernel_rfl
theorem load_arr {w : World} {b : Nat} {cs : Array Value} (h : Blk w b cs 28) (hs : cs.size = 3) : (loadVar 28 ⟨b, 0, none⟩).run Tryz.prog w = .ok (.agg cs) w :=
  load_blk h Tryz.underlying28 rfl (by rw [arr_size, hs])

def RepE (w : World) (R : Except Int (List Nat × Nat)) (e : Ending) (w' : World) : Prop :=
  Keeps w w' [] ∧ match R with
    | .ok (acc, K) => ∃ x0 x1 x2 : Nat, acc = [x0, x1, x2] ∧ e = .returned (.tuple #[.agg #[.int .i64 (x0 : Int), .int .i64 (x1 : Int), .int .i64 (x2 : Int)], .int .i64 (K : Int), .int .i64 0])
    | .error n => n ≠ 0 ∧ ∃ a b c k' : Int, e = .returned (.tuple #[.agg #[.int .i64 a, .int .i64 b, .int .i64 c], .int .i64 k', .int .i64 n])

set_option maxRecDepth 100000 in
set_option maxHeartbeats 8000000 in
theorem rreps_any (k : Nat) (v : Value) (B : List Int) (w : World) (hv : RdI .u8 w v B) (hl : B.length ≤ 1000000) (hb : ∀ x ∈ B, 0 ≤ x ∧ x ≤ 255) (hk : k ≤ B.length) :
    Calls Tryz.prog 53 #[v, .int .i64 (k : Int)] w (RepE w (contR B 3 k [])) := by
  obtain ⟨A0, n, cp, rfl, -, -⟩ := hv.form
  have HG := Lib.hid (fun W k' (kk : Keeps w W []) (hk : k' ≤ B.length) => rvget_any k' _ B W (hv.keeps kk) hl hb hk)
  obtain ⟨R, hR⟩ : ∃ R, contR B 3 k [] = R := ⟨_, rfl⟩
  rw [hR]
  have HR0 := Lib.hid hR
  have HK0 := Lib.hid hk
  have b4 := (Blk.new w #[.int .i64 0, .int .i64 0, .int .i64 0] 28).alloc (.cells #[.int .i64 0, .int .i64 0, .int .i64 0] 28)
  have b7 := Blk.new (w.alloc (.cells #[.int .i64 0, .int .i64 0, .int .i64 0] 28)) #[.int .i64 0, .int .i64 0, .int .i64 0] 28
  have k0 := ((Keeps.refl w []).alloc (.cells #[.int .i64 0, .int .i64 0, .int .i64 0] 28)).alloc (.cells #[.int .i64 0, .int .i64 0, .int .i64 0] 28)
  simp only [World.size_alloc] at b7
  clear hv hl hb hk hR
  go_enter Tryz.func53, Tryz.ntmps53
  go_wp2_with fail
  refine wp_loop_rounds 4 ?_
  rw [rounds_succ]
  have HV := Lib.hid (HG.out _ k k0 HK0.out)
  obtain ⟨E, hE⟩ : ∃ E, varE B k = E := ⟨_, rfl⟩
  obtain ⟨X, hX⟩ : ∃ X, varX B k = X := ⟨_, rfl⟩
  obtain ⟨K, hK⟩ : ∃ K, varK B k = K := ⟨_, rfl⟩
  have HKn := Lib.hid (show K ≤ B.length from hK ▸ varK_le HK0.out)
  rw [hE, hX, hK] at HV
  by_cases h0 : E ≠ 0
  · have HRe : Hid (R = .error E) := Lib.hid (by rw [← HR0.out]; exact contR_err (by unfold repR; rw [hE, if_pos h0]))
    have HE := Lib.hid h0
    have hEb : (E != 0) = true := by simpa using h0
    clear hE hX hK h0
    go_wp2_with (first
      | (go_at_call 106; go_loud (refine HV.out.mono ?_; rintro e we ⟨rfl, kk⟩; have b4' := b4.keeps kk (by simp); have b7' := b7.keeps kk (by simp); have k' := k0.then kk; obtain ⟨y0, y1, y2⟩ : _ ∧ _ ∧ _ := ⟨b7'.cell 0, b7'.cell 1, b7'.cell 2⟩; simp at y0 y1 y2))
      | (refine wpList_store_blk rfl 28 _ _ rfl w.heap.size #[.int .i64 0, .int .i64 0, .int .i64 0] rfl rfl _ _ b4' arr_size rfl (by simp [Value.oneCell']) ?_; intro W3 b9 k9))
    rw [HRe.out]
    refine bodyPost_ret (v := .tuple #[.agg #[.int .i64 0, .int .i64 0, .int .i64 0], .int .i64 (k : Int), .int .i64 E]) (res_cell_tmp2 rfl rfl rfl rfl (load_arr b9 rfl)) rfl ⟨k'.trans k9 (fun j hj hlt => by simp at hj; omega), HE.out, _, _, _, _, rfl⟩
  have hE0 : E = 0 := by simpa using h0
  subst hE0
  by_cases hbad : X < 1 ∨ 134217728 < X
  · have HRe : Hid (R = .error 9) := Lib.hid (by rw [← HR0.out]; exact contR_err (by unfold repR; rw [hE, hX, if_neg (by simp), if_pos hbad]))
    clear hE hK hX h0
    rcases hbad with hbad | hbad
    · obtain rfl : X = 0 := by omega
      go_wp2_with (first
        | (go_at_call 106; go_loud (refine HV.out.mono ?_; rintro e we ⟨rfl, kk⟩; have b4' := b4.keeps kk (by simp); have b7' := b7.keeps kk (by simp); have k' := k0.then kk; obtain ⟨y0, y1, y2⟩ : _ ∧ _ ∧ _ := ⟨b7'.cell 0, b7'.cell 1, b7'.cell 2⟩; simp at y0 y1 y2))
        | (refine wpList_store_blk rfl 28 _ _ rfl w.heap.size #[.int .i64 0, .int .i64 0, .int .i64 0] rfl rfl _ _ b4' arr_size rfl (by simp [Value.oneCell']) ?_; intro W3 b9 k9))
      rw [HRe.out]
      refine bodyPost_ret (v := .tuple #[.agg #[.int .i64 0, .int .i64 0, .int .i64 0], .int .i64 (k : Int), .int .i64 9]) (res_cell_tmp2 rfl rfl rfl rfl (load_arr b9 rfl)) rfl ⟨k'.trans k9 (fun j hj hlt => by simp at hj; omega), by decide, _, _, _, _, rfl⟩
    · have h1 : decide ((X : Int) < 1) = false := decide_eq_false (by omega)
      have h1n : decide (X < 1) = false := decide_eq_false (by omega)
      have h2 : (134217728 : Int) < (X : Int) := by omega
      have h2n : 134217728 < X := by omega
      go_wp2_with (first
        | (go_at_call 106; go_loud (refine HV.out.mono ?_; rintro e we ⟨rfl, kk⟩; have b4' := b4.keeps kk (by simp); have b7' := b7.keeps kk (by simp); have k' := k0.then kk; obtain ⟨y0, y1, y2⟩ : _ ∧ _ ∧ _ := ⟨b7'.cell 0, b7'.cell 1, b7'.cell 2⟩; simp at y0 y1 y2))
        | (refine wpList_store_blk rfl 28 _ _ rfl w.heap.size #[.int .i64 0, .int .i64 0, .int .i64 0] rfl rfl _ _ b4' arr_size rfl (by simp [Value.oneCell']) ?_; intro W3 b9 k9))
      rw [HRe.out]
      refine bodyPost_ret (v := .tuple #[.agg #[.int .i64 0, .int .i64 0, .int .i64 0], .int .i64 (k : Int), .int .i64 9]) (res_cell_tmp2 rfl rfl rfl rfl (load_arr b9 rfl)) rfl ⟨k'.trans k9 (fun j hj hlt => by simp at hj; omega), by decide, _, _, _, _, rfl⟩
  obtain ⟨x0, hx0⟩ : ∃ x, x = X := ⟨_, rfl⟩
  subst hx0
  obtain ⟨K0, hKK⟩ : ∃ x, x = K := ⟨_, rfl⟩
  subst hKK
  have HR1 : Hid (contR B 2 K0 [x0] = R) := Lib.hid (by rw [← HR0.out]; exact (contR_ok (f := 2) (acc := []) (by unfold repR; rw [hE, hX, hK, if_neg (by simp), if_neg hbad])).symm)
  have HK1 := HKn
  have h1 : decide ((x0 : Int) < 1) = false := decide_eq_false (by omega)
  have h1n : decide (x0 < 1) = false := decide_eq_false (by omega)
  have h2 : decide ((134217728 : Int) < (x0 : Int)) = false := decide_eq_false (by omega)
  have h2n : decide (134217728 < x0) = false := decide_eq_false (by omega)
  have hcv : IntKind.i64.wrap (x0 : Int) = (x0 : Int) := IntWalk.i64_in _ ⟨by omega, by omega⟩
  have hcw : wrap64 (x0 : Int) = (x0 : Int) := IntWalk.wrap64_in _ ⟨by omega, by omega⟩
  clear hE hX hK h0 hbad HKn
  go_wp2_with (go_at_call 106; go_loud (refine HV.out.mono ?_; rintro e w1 ⟨rfl, kk⟩; have b4' := b4.keeps kk (by simp); have b7' := b7.keeps kk (by simp); have k' := k0.then kk; have c7 := b7'.cell 0; simp at c7; have f7 := b7'.frozen 0))
  have kb : Keeps w1 (w1.setCell ⟨w.heap.size + 1, 0, none⟩ (.int .i64 (x0 : Int))) [w.heap.size + 1] := (Keeps.refl _ _).setCell (.inr (by simp)) _
  have k1 := k'.trans kb (fun j hj hlt => by simp at hj; omega)
  replace b4 := b4'.keeps kb (by simp)
  replace b7 := b7'.set 0 (.int .i64 (x0 : Int))
  simp only [List.setIfInBounds_toArray, List.set_cons_zero, List.set_cons_succ] at b7
  clear b4' b7' k' c7 f7 h1 h1n h2 h2n hcv hcw HV
  rw [rounds_succ]
  have HV := Lib.hid (HG.out _ K0 k1 HK1.out)
  obtain ⟨E, hE⟩ : ∃ E, varE B K0 = E := ⟨_, rfl⟩
  obtain ⟨X, hX⟩ : ∃ X, varX B K0 = X := ⟨_, rfl⟩
  obtain ⟨K, hK⟩ : ∃ K, varK B K0 = K := ⟨_, rfl⟩
  have HKn := Lib.hid (show K ≤ B.length from hK ▸ varK_le HK1.out)
  rw [hE, hX, hK] at HV
  by_cases h0 : E ≠ 0
  · have HRe : Hid (R = .error E) := Lib.hid (by rw [← HR1.out]; exact contR_err (by unfold repR; rw [hE, if_pos h0]))
    have HE := Lib.hid h0
    have hEb : (E != 0) = true := by simpa using h0
    clear hE hX hK h0
    go_wp2_with (first
      | (go_at_call 106; go_loud (refine HV.out.mono ?_; rintro e we ⟨rfl, kk⟩; have b4' := b4.keeps kk (by simp); have b7' := b7.keeps kk (by simp); have k' := k1.then kk; obtain ⟨y0, y1, y2⟩ : _ ∧ _ ∧ _ := ⟨b7'.cell 0, b7'.cell 1, b7'.cell 2⟩; simp at y0 y1 y2))
      | (refine wpList_store_blk rfl 28 _ _ rfl w.heap.size #[.int .i64 (x0 : Int), .int .i64 0, .int .i64 0] rfl rfl _ _ b4' arr_size rfl (by simp [Value.oneCell']) ?_; intro W3 b9 k9))
    rw [HRe.out]
    refine bodyPost_ret (v := .tuple #[.agg #[.int .i64 (x0 : Int), .int .i64 0, .int .i64 0], .int .i64 (K0 : Int), .int .i64 E]) (res_cell_tmp2 rfl rfl rfl rfl (load_arr b9 rfl)) rfl ⟨k'.trans k9 (fun j hj hlt => by simp at hj; omega), HE.out, _, _, _, _, rfl⟩
  have hE0 : E = 0 := by simpa using h0
  subst hE0
  by_cases hbad : X < 1 ∨ 134217728 < X
  · have HRe : Hid (R = .error 9) := Lib.hid (by rw [← HR1.out]; exact contR_err (by unfold repR; rw [hE, hX, if_neg (by simp), if_pos hbad]))
    clear hE hK hX h0
    rcases hbad with hbad | hbad
    · obtain rfl : X = 0 := by omega
      go_wp2_with (first
        | (go_at_call 106; go_loud (refine HV.out.mono ?_; rintro e we ⟨rfl, kk⟩; have b4' := b4.keeps kk (by simp); have b7' := b7.keeps kk (by simp); have k' := k1.then kk; obtain ⟨y0, y1, y2⟩ : _ ∧ _ ∧ _ := ⟨b7'.cell 0, b7'.cell 1, b7'.cell 2⟩; simp at y0 y1 y2))
        | (refine wpList_store_blk rfl 28 _ _ rfl w.heap.size #[.int .i64 (x0 : Int), .int .i64 0, .int .i64 0] rfl rfl _ _ b4' arr_size rfl (by simp [Value.oneCell']) ?_; intro W3 b9 k9))
      rw [HRe.out]
      refine bodyPost_ret (v := .tuple #[.agg #[.int .i64 (x0 : Int), .int .i64 0, .int .i64 0], .int .i64 (K0 : Int), .int .i64 9]) (res_cell_tmp2 rfl rfl rfl rfl (load_arr b9 rfl)) rfl ⟨k'.trans k9 (fun j hj hlt => by simp at hj; omega), by decide, _, _, _, _, rfl⟩
    · have h1 : decide ((X : Int) < 1) = false := decide_eq_false (by omega)
      have h1n : decide (X < 1) = false := decide_eq_false (by omega)
      have h2 : (134217728 : Int) < (X : Int) := by omega
      have h2n : 134217728 < X := by omega
      go_wp2_with (first
        | (go_at_call 106; go_loud (refine HV.out.mono ?_; rintro e we ⟨rfl, kk⟩; have b4' := b4.keeps kk (by simp); have b7' := b7.keeps kk (by simp); have k' := k1.then kk; obtain ⟨y0, y1, y2⟩ : _ ∧ _ ∧ _ := ⟨b7'.cell 0, b7'.cell 1, b7'.cell 2⟩; simp at y0 y1 y2))
        | (refine wpList_store_blk rfl 28 _ _ rfl w.heap.size #[.int .i64 (x0 : Int), .int .i64 0, .int .i64 0] rfl rfl _ _ b4' arr_size rfl (by simp [Value.oneCell']) ?_; intro W3 b9 k9))
      rw [HRe.out]
      refine bodyPost_ret (v := .tuple #[.agg #[.int .i64 (x0 : Int), .int .i64 0, .int .i64 0], .int .i64 (K0 : Int), .int .i64 9]) (res_cell_tmp2 rfl rfl rfl rfl (load_arr b9 rfl)) rfl ⟨k'.trans k9 (fun j hj hlt => by simp at hj; omega), by decide, _, _, _, _, rfl⟩
  obtain ⟨x1, hx1⟩ : ∃ x, x = X := ⟨_, rfl⟩
  subst hx1
  obtain ⟨K1, hKK⟩ : ∃ x, x = K := ⟨_, rfl⟩
  subst hKK
  have HR2 : Hid (contR B 1 K1 [x0, x1] = R) := Lib.hid (by rw [← HR1.out]; exact (contR_ok (f := 1) (acc := [x0]) (by unfold repR; rw [hE, hX, hK, if_neg (by simp), if_neg hbad])).symm)
  have HK2 := HKn
  have h1 : decide ((x1 : Int) < 1) = false := decide_eq_false (by omega)
  have h1n : decide (x1 < 1) = false := decide_eq_false (by omega)
  have h2 : decide ((134217728 : Int) < (x1 : Int)) = false := decide_eq_false (by omega)
  have h2n : decide (134217728 < x1) = false := decide_eq_false (by omega)
  have hcv : IntKind.i64.wrap (x1 : Int) = (x1 : Int) := IntWalk.i64_in _ ⟨by omega, by omega⟩
  have hcw : wrap64 (x1 : Int) = (x1 : Int) := IntWalk.wrap64_in _ ⟨by omega, by omega⟩
  clear hE hX hK h0 hbad HKn
  go_wp2_with (go_at_call 106; go_loud (refine HV.out.mono ?_; rintro e w2 ⟨rfl, kk⟩; have b4' := b4.keeps kk (by simp); have b7' := b7.keeps kk (by simp); have k' := k1.then kk; have c7 := b7'.cell 1; simp at c7; have f7 := b7'.frozen 1))
  have kb : Keeps w2 (w2.setCell ⟨w.heap.size + 1, 1, none⟩ (.int .i64 (x1 : Int))) [w.heap.size + 1] := (Keeps.refl _ _).setCell (.inr (by simp)) _
  have k2 := k'.trans kb (fun j hj hlt => by simp at hj; omega)
  replace b4 := b4'.keeps kb (by simp)
  replace b7 := b7'.set 1 (.int .i64 (x1 : Int))
  simp only [List.setIfInBounds_toArray, List.set_cons_zero, List.set_cons_succ] at b7
  clear b4' b7' k' c7 f7 h1 h1n h2 h2n hcv hcw HV
  rw [rounds_succ]
  have HV := Lib.hid (HG.out _ K1 k2 HK2.out)
  obtain ⟨E, hE⟩ : ∃ E, varE B K1 = E := ⟨_, rfl⟩
  obtain ⟨X, hX⟩ : ∃ X, varX B K1 = X := ⟨_, rfl⟩
  obtain ⟨K, hK⟩ : ∃ K, varK B K1 = K := ⟨_, rfl⟩
  have HKn := Lib.hid (show K ≤ B.length from hK ▸ varK_le HK2.out)
  rw [hE, hX, hK] at HV
  by_cases h0 : E ≠ 0
  · have HRe : Hid (R = .error E) := Lib.hid (by rw [← HR2.out]; exact contR_err (by unfold repR; rw [hE, if_pos h0]))
    have HE := Lib.hid h0
    have hEb : (E != 0) = true := by simpa using h0
    clear hE hX hK h0
    go_wp2_with (first
      | (go_at_call 106; go_loud (refine HV.out.mono ?_; rintro e we ⟨rfl, kk⟩; have b4' := b4.keeps kk (by simp); have b7' := b7.keeps kk (by simp); have k' := k2.then kk; obtain ⟨y0, y1, y2⟩ : _ ∧ _ ∧ _ := ⟨b7'.cell 0, b7'.cell 1, b7'.cell 2⟩; simp at y0 y1 y2))
      | (refine wpList_store_blk rfl 28 _ _ rfl w.heap.size #[.int .i64 (x0 : Int), .int .i64 (x1 : Int), .int .i64 0] rfl rfl _ _ b4' arr_size rfl (by simp [Value.oneCell']) ?_; intro W3 b9 k9))
    rw [HRe.out]
    refine bodyPost_ret (v := .tuple #[.agg #[.int .i64 (x0 : Int), .int .i64 (x1 : Int), .int .i64 0], .int .i64 (K1 : Int), .int .i64 E]) (res_cell_tmp2 rfl rfl rfl rfl (load_arr b9 rfl)) rfl ⟨k'.trans k9 (fun j hj hlt => by simp at hj; omega), HE.out, _, _, _, _, rfl⟩
  have hE0 : E = 0 := by simpa using h0
  subst hE0
  by_cases hbad : X < 1 ∨ 134217728 < X
  · have HRe : Hid (R = .error 9) := Lib.hid (by rw [← HR2.out]; exact contR_err (by unfold repR; rw [hE, hX, if_neg (by simp), if_pos hbad]))
    clear hE hK hX h0
    rcases hbad with hbad | hbad
    · obtain rfl : X = 0 := by omega
      go_wp2_with (first
        | (go_at_call 106; go_loud (refine HV.out.mono ?_; rintro e we ⟨rfl, kk⟩; have b4' := b4.keeps kk (by simp); have b7' := b7.keeps kk (by simp); have k' := k2.then kk; obtain ⟨y0, y1, y2⟩ : _ ∧ _ ∧ _ := ⟨b7'.cell 0, b7'.cell 1, b7'.cell 2⟩; simp at y0 y1 y2))
        | (refine wpList_store_blk rfl 28 _ _ rfl w.heap.size #[.int .i64 (x0 : Int), .int .i64 (x1 : Int), .int .i64 0] rfl rfl _ _ b4' arr_size rfl (by simp [Value.oneCell']) ?_; intro W3 b9 k9))
      rw [HRe.out]
      refine bodyPost_ret (v := .tuple #[.agg #[.int .i64 (x0 : Int), .int .i64 (x1 : Int), .int .i64 0], .int .i64 (K1 : Int), .int .i64 9]) (res_cell_tmp2 rfl rfl rfl rfl (load_arr b9 rfl)) rfl ⟨k'.trans k9 (fun j hj hlt => by simp at hj; omega), by decide, _, _, _, _, rfl⟩
    · have h1 : decide ((X : Int) < 1) = false := decide_eq_false (by omega)
      have h1n : decide (X < 1) = false := decide_eq_false (by omega)
      have h2 : (134217728 : Int) < (X : Int) := by omega
      have h2n : 134217728 < X := by omega
      go_wp2_with (first
        | (go_at_call 106; go_loud (refine HV.out.mono ?_; rintro e we ⟨rfl, kk⟩; have b4' := b4.keeps kk (by simp); have b7' := b7.keeps kk (by simp); have k' := k2.then kk; obtain ⟨y0, y1, y2⟩ : _ ∧ _ ∧ _ := ⟨b7'.cell 0, b7'.cell 1, b7'.cell 2⟩; simp at y0 y1 y2))
        | (refine wpList_store_blk rfl 28 _ _ rfl w.heap.size #[.int .i64 (x0 : Int), .int .i64 (x1 : Int), .int .i64 0] rfl rfl _ _ b4' arr_size rfl (by simp [Value.oneCell']) ?_; intro W3 b9 k9))
      rw [HRe.out]
      refine bodyPost_ret (v := .tuple #[.agg #[.int .i64 (x0 : Int), .int .i64 (x1 : Int), .int .i64 0], .int .i64 (K1 : Int), .int .i64 9]) (res_cell_tmp2 rfl rfl rfl rfl (load_arr b9 rfl)) rfl ⟨k'.trans k9 (fun j hj hlt => by simp at hj; omega), by decide, _, _, _, _, rfl⟩
  obtain ⟨x2, hx2⟩ : ∃ x, x = X := ⟨_, rfl⟩
  subst hx2
  obtain ⟨K2, hKK⟩ : ∃ x, x = K := ⟨_, rfl⟩
  subst hKK
  have HR3 : Hid (contR B 0 K2 [x0, x1, x2] = R) := Lib.hid (by rw [← HR2.out]; exact (contR_ok (f := 0) (acc := [x0, x1]) (by unfold repR; rw [hE, hX, hK, if_neg (by simp), if_neg hbad])).symm)
  have HK3 := HKn
  have h1 : decide ((x2 : Int) < 1) = false := decide_eq_false (by omega)
  have h1n : decide (x2 < 1) = false := decide_eq_false (by omega)
  have h2 : decide ((134217728 : Int) < (x2 : Int)) = false := decide_eq_false (by omega)
  have h2n : decide (134217728 < x2) = false := decide_eq_false (by omega)
  have hcv : IntKind.i64.wrap (x2 : Int) = (x2 : Int) := IntWalk.i64_in _ ⟨by omega, by omega⟩
  have hcw : wrap64 (x2 : Int) = (x2 : Int) := IntWalk.wrap64_in _ ⟨by omega, by omega⟩
  clear hE hX hK h0 hbad HKn
  go_wp2_with (go_at_call 106; go_loud (refine HV.out.mono ?_; rintro e w3 ⟨rfl, kk⟩; have b4' := b4.keeps kk (by simp); have b7' := b7.keeps kk (by simp); have k' := k2.then kk; have c7 := b7'.cell 2; simp at c7; have f7 := b7'.frozen 2))
  have kb : Keeps w3 (w3.setCell ⟨w.heap.size + 1, 2, none⟩ (.int .i64 (x2 : Int))) [w.heap.size + 1] := (Keeps.refl _ _).setCell (.inr (by simp)) _
  have k3 := k'.trans kb (fun j hj hlt => by simp at hj; omega)
  replace b4 := b4'.keeps kb (by simp)
  replace b7 := b7'.set 2 (.int .i64 (x2 : Int))
  simp only [List.setIfInBounds_toArray, List.set_cons_zero, List.set_cons_succ] at b7
  clear b4' b7' k' c7 f7 h1 h1n h2 h2n hcv hcw HV
  rw [rounds_succ]
  obtain ⟨y0, y1, y2⟩ : _ ∧ _ ∧ _ := ⟨b7.cell 0, b7.cell 1, b7.cell 2⟩
  simp at y0 y1 y2
  go_wp2_with (refine wpList_store_blk rfl 28 _ _ rfl w.heap.size #[.int .i64 (x0 : Int), .int .i64 (x1 : Int), .int .i64 (x2 : Int)] rfl rfl _ _ b4 arr_size rfl (by simp [Value.oneCell']) ?_; intro W3 b9 k9)
  have HRe : R = .ok ([x0, x1, x2], K2) := HR3.out.symm
  rw [HRe]
  refine bodyPost_ret (v := .tuple #[.agg #[.int .i64 (x0 : Int), .int .i64 (x1 : Int), .int .i64 (x2 : Int)], .int .i64 (K2 : Int), .int .i64 0]) (res_cell_tmp2 rfl rfl rfl rfl (load_arr b9 rfl)) rfl ⟨k3.trans k9 (fun j hj hlt => by simp at hj; omega), x0, x1, x2, rfl, rfl⟩
end

section
set_option linter.unusedVariables false
set_option linter.unusedSimpArgs false
set_option linter.unusedSectionVars false
open Go.RowKit

theorem codedR_le {B : List Int} {k m : Nat} (hk : k ≤ B.length) : (codedR B k m).2 ≤ B.length := by
  unfold codedR
  rcases hd : descP ((B.drop k).take 1024) 12 6 with e | ⟨g, norm, nb⟩
  · exact hk
  · have h0 := descP_nb hd
    rw [List.length_take, List.length_drop] at h0
    have h1 : numK B (k + nb) 131072 ≤ B.length := numK_le (by omega)
    simp only
    split
    · exact h1
    split
    · exact bytesK_le h1
    · exact bytesK_le h1
theorem getW_le {B T : List Int} {k K : Nat} (hk : k ≤ B.length) (h : getW B k = .ok (T, K)) : K ≤ B.length := by
  have hn := numK_le (M := 255) hk
  unfold getW at h
  split at h
  · cases h
  split at h
  · cases h
  split at h
  · cases h
  rename_i h3
  have h1 : numK B k 255 + 1 ≤ B.length := by omega
  split at h
  · split at h
    · cases h
    · unfold finW at h
      split at h
      · cases h
        exact bytesK_le h1
      · cases h
  · split at h
    · split at h
      · cases h
      · unfold finW at h
        split at h
        · cases h
          exact codedR_le h1
        · cases h
    · cases h
theorem descP_at {B : List Int} {k symbols g nb : Nat} {log : Int} {norm : List Int} (hk : k ≤ B.length) (h : descP ((B.drop k).take 1024) symbols log = .ok (g, norm, nb)) : k + nb ≤ B.length := by
  have h0 := descP_nb h
  rw [List.length_take, List.length_drop] at h0
  omega
theorem repR_le {B : List Int} {k x k' : Nat} (hk : k ≤ B.length) (h : repR B k = .ok (x, k')) : k' ≤ B.length := by
  unfold repR at h
  split at h
  · cases h
  split at h
  · cases h
  · cases h; exact varK_le hk
theorem contR_le {B : List Int} : ∀ (f k : Nat) (acc l : List Nat) (k' : Nat), k ≤ B.length → contR B f k acc = .ok (l, k') → k' ≤ B.length
  | 0, k, acc, l, k', hk, h => by cases h; exact hk
  | f + 1, k, acc, l, k', hk, h => by
    unfold contR at h
    split at h
    · cases h
    · rename_i x k1 hr
      exact contR_le f k1 _ l k' (repR_le hk hr) h

/-- How reference 16's Get ends; the tree lies in new memory. -/
def GtRefF (w : World) (Z : Except Int (List Int × Nat)) (e : Ending) (w' : World) : Prop :=
  Keeps w w' [] ∧ match Z with
    | .ok (L, K) => ∃ r, e = .returned (.tuple #[r, .int .i64 (K : Int), .int .i64 0]) ∧ RdI .i64 w' r L ∧ Fresh w.heap.size r
    | .error n => n ≠ 0 ∧ ∃ (r : Value) (N : Nat), e = .returned (.tuple #[r, .int .i64 (N : Int), .int .i64 n]) ∧ RdI .i64 w' r []

set_option maxRecDepth 100000 in
set_option maxHeartbeats 8000000 in
theorem r16getF_any (k : Nat) (v : Value) (B : List Int) (w : World) (hv : RdI .u8 w v B) (hl : B.length ≤ 100000) (hb : ∀ x ∈ B, 0 ≤ x ∧ x ≤ 255) (hk : k ≤ B.length) :
    Calls Tryz.prog 51 #[v, .int .i64 (k : Int)] w (GtRefF w (getW B k)) := by
  obtain ⟨A0, n, cp, rfl, hn, -⟩ := hv.form
  have HN := Lib.hid (rvnumber_any k 255 _ B w hv (by omega) hb hk (by decide))
  rw [show ((255 : Nat) : Int) = 255 from rfl] at HN
  have hnk := numK_le (M := 255) hk
  have hmost : numE B k 255 = 0 → numX B k 255 ≤ 255 := fun h => numX_most h
  have hcap := hv.cap
  obtain ⟨Z, hZ⟩ : ∃ Z, getW B k = Z := ⟨_, rfl⟩
  rw [hZ]
  unfold getW at hZ
  obtain ⟨NX, hNX⟩ : ∃ N, numX B k 255 = N := ⟨_, rfl⟩
  obtain ⟨NK, hNK⟩ : ∃ N, numK B k 255 = N := ⟨_, rfl⟩
  obtain ⟨NE, hNE⟩ : ∃ N, numE B k 255 = N := ⟨_, rfl⟩
  rw [hNX, hNK, hNE] at HN hZ
  rw [hNK] at hnk
  rw [hNX, hNE] at hmost
  clear hNX hNK hNE
  by_cases hE : NE = 0
  · subst hE
    rw [if_neg (by simp)] at hZ
    have hNX5 := hmost rfl
    by_cases hX : NX = 0
    · subst hX
      rw [if_pos rfl] at hZ
      subst hZ
      clear hv hl hb hk hmost hn
      go_enter Tryz.func51, Tryz.ntmps51
      go_wp2_with (first
        | (go_at_call 54; go_loud (refine HN.out.mono ?_; rintro e w1 ⟨rfl, k1⟩)))
      exact bodyPost_ret (v := .tuple #[.slice none 0 0, .int .i64 (k : Int), .int .i64 12]) (by simp only [results, Tryz.results51]; go_simp) rfl ⟨k1, by decide, _, k, rfl, .nil⟩
    · rw [if_neg hX] at hZ
      have hX1 : ((NX : Int) == 0) = false := by simp; omega
      have hX2 : (NX == 0) = false := by simpa using hX
      by_cases hS : B.length ≤ NK
      · rw [if_pos hS] at hZ
        subst hZ
        have hge : decide ((n : Int) ≤ (NK : Int)) = true := decide_eq_true (by omega)
        have hgeN : decide (n ≤ NK) = true := decide_eq_true (by omega)
        clear hv hl hb hk hmost hn
        go_enter Tryz.func51, Tryz.ntmps51
        go_wp2_with (first
          | (go_at_call 54; go_loud (refine HN.out.mono ?_; rintro e w1 ⟨rfl, k1⟩)))
        exact bodyPost_ret (v := .tuple #[.slice none 0 0, .int .i64 (k : Int), .int .i64 3]) (by simp only [results, Tryz.results51]; go_simp) rfl ⟨k1, by decide, _, k, rfl, .nil⟩
      · rw [if_neg hS] at hZ
        have hge : decide ((n : Int) ≤ (NK : Int)) = false := decide_eq_false (by omega)
        have hgeN : decide (n ≤ NK) = false := decide_eq_false (by omega)
        obtain ⟨x, hx⟩ : ∃ x, B[NK]? = some x := ⟨_, List.getElem?_eq_getElem (by omega)⟩
        obtain ⟨b0, o, rfl, hbb, hc⟩ := hv.at hx
        have hNKn : (NK : Int) < (n : Int) := by omega
        rw [byteX_some hx] at hZ
        by_cases hx0 : x = 0
        · subst hx0
          rw [if_pos rfl] at hZ
          have HH := Lib.hid (fun W (kk : Keeps w W []) => rhalv_any (NK + 1) NX _ B W (hv.keeps kk) hl hb (by omega) (by omega) (by omega))
          rw [show ((NK + 1 : Nat) : Int) = (NK : Int) + 1 from by omega] at HH
          obtain ⟨NK1, hNK1⟩ : ∃ D : Int, (NK : Int) + 1 = D := ⟨_, rfl⟩
          have hwN : wrap64 NK1 = NK1 := IntWalk.wrap64_in _ ⟨by omega, by omega⟩
          rw [hNK1] at HH
          have hxl : (halvX B (NK + 1) NX).length ≤ 255 := by unfold halvX; rw [List.length_take]; omega
          obtain ⟨L, hL⟩ : ∃ L, halvX B (NK + 1) NX = L := ⟨_, rfl⟩
          obtain ⟨HE, hHE⟩ : ∃ L, halvE B (NK + 1) NX = L := ⟨_, rfl⟩
          obtain ⟨KB, hKB⟩ : ∃ L, bytesK B (NK + 1) (((NX + 1) / 2 : Nat) : Int) = L := ⟨_, rfl⟩
          rw [hL, hHE, hKB] at HH hZ
          rw [hL] at hxl
          have HT := Lib.hid (fun W u (h : RdI .i64 W u L) => r_tree u L W h (by omega))
          clear hv hl hb hk hmost hn hx hL hHE hKB
          by_cases hh : HE = 0
          · subst hh
            rw [if_neg (by simp)] at hZ
            unfold finW at hZ
            cases ht : okW L with
            | true =>
              rw [ht, if_pos rfl] at hZ
              subst hZ
              have ht1 : treeOut L = tOf L := by simp [treeOut, ht]
              have ht2 : treeErr L = 0 := by simp [treeErr, ht]
              rw [ht1, ht2] at HT
              clear ht1 ht2 ht
              go_enter Tryz.func51, Tryz.ntmps51
              go_wp2_with (first
                | (go_at_call 54; go_loud (refine HN.out.mono ?_; rintro e w1 ⟨rfl, k1⟩; have c1 := (k1.cell (p := ⟨b0, o + NK, none⟩) hbb (by simp)).trans hc))
                | (go_at_call 99; go_loud (refine (HH.out _ k1).mono ?_; rintro e w2 ⟨k2, r, N, rfl, hr⟩; have kk2 := k1.then k2; obtain ⟨rd2, rfl⟩ := hr rfl; have RD2 := Lib.hid rd2; clear rd2 hr))
                | (go_at_call 101; go_loud (refine (HT.out _ _ RD2.out).mono ?_; rintro e w3 ⟨v3, rfl, rd3, fr3, k3⟩; have kk3 := kk2.then k3; have FR3 := Lib.hid (fr3.mono kk2.size); clear fr3; have RD3 := Lib.hid rd3; clear rd3)))
              exact bodyPost_ret (v := .tuple #[v3, .int .i64 (N : Int), .int .i64 0]) (by simp only [results, Tryz.results51]; go_simp) rfl ⟨kk3, v3, rfl, RD3.out, FR3.out⟩
            | false =>
              rw [ht, if_neg (by simp)] at hZ
              subst hZ
              have ht1 : treeOut L = [] := by simp [treeOut, ht]
              have ht2 : treeErr L = 12 := by simp [treeErr, ht]
              rw [ht1, ht2] at HT
              clear ht1 ht2 ht
              go_enter Tryz.func51, Tryz.ntmps51
              go_wp2_with (first
                | (go_at_call 54; go_loud (refine HN.out.mono ?_; rintro e w1 ⟨rfl, k1⟩; have c1 := (k1.cell (p := ⟨b0, o + NK, none⟩) hbb (by simp)).trans hc))
                | (go_at_call 99; go_loud (refine (HH.out _ k1).mono ?_; rintro e w2 ⟨k2, r, N, rfl, hr⟩; have kk2 := k1.then k2; obtain ⟨rd2, rfl⟩ := hr rfl; have RD2 := Lib.hid rd2; clear rd2 hr))
                | (go_at_call 101; go_loud (refine (HT.out _ _ RD2.out).mono ?_; rintro e w3 ⟨v3, rfl, rd3, fr3, k3⟩; have kk3 := kk2.then k3; have FR3 := Lib.hid (fr3.mono kk2.size); clear fr3; have RD3 := Lib.hid rd3; clear rd3)))
              exact bodyPost_ret (v := .tuple #[v3, .int .i64 (N : Int), .int .i64 12]) (by simp only [results, Tryz.results51]; go_simp) rfl ⟨kk3, by decide, v3, N, rfl, RD3.out⟩
          · rw [if_pos hh] at hZ
            subst hZ
            have hh1 : (HE != 0) = true := by simpa using hh
            have hh2 : (HE == 0) = false := by simpa using hh
            have HH0 := Lib.hid hh
            clear hh HT
            go_enter Tryz.func51, Tryz.ntmps51
            go_wp2_with (first
              | (go_at_call 54; go_loud (refine HN.out.mono ?_; rintro e w1 ⟨rfl, k1⟩; have c1 := (k1.cell (p := ⟨b0, o + NK, none⟩) hbb (by simp)).trans hc))
              | (go_at_call 99; go_loud (refine (HH.out _ k1).mono ?_; rintro e w2 ⟨k2, r, N, rfl, hr⟩; have kk2 := k1.then k2; clear hr)))
            exact bodyPost_ret (v := .tuple #[.slice none 0 0, .int .i64 (k : Int), .int .i64 HE]) (by simp only [results, Tryz.results51]; go_simp) rfl ⟨kk2, HH0.out, _, k, rfl, .nil⟩
        · rw [if_neg hx0] at hZ
          have hx01 : (x == 0) = false := by simpa using hx0
          by_cases hx1 : x = 1
          · subst hx1
            rw [if_pos rfl] at hZ
            have HH := Lib.hid (fun W (kk : Keeps w W []) => rcoded_any (NK + 1) NX _ B W (hv.keeps kk) hl hb (by omega) (by omega) (by omega))
            rw [show ((NK + 1 : Nat) : Int) = (NK : Int) + 1 from by omega] at HH
            obtain ⟨NK1, hNK1⟩ : ∃ D : Int, (NK : Int) + 1 = D := ⟨_, rfl⟩
            have hwN : wrap64 NK1 = NK1 := IntWalk.wrap64_in _ ⟨by omega, by omega⟩
            rw [hNK1] at HH
            unfold CodRef at HH
            have hcl : ∀ o, (codedR B (NK + 1) NX).1 = .ok o → o.length = NX := fun o h => codedR_len h
            obtain ⟨CR, hCR⟩ : ∃ L, codedR B (NK + 1) NX = L := ⟨_, rfl⟩
            rw [hCR] at HH hZ hcl
            obtain ⟨C1, C2⟩ := CR
            simp only at HH hZ hcl
            clear hv hl hb hk hmost hn hx hCR
            cases C1 with
            | error er =>
              simp only at HH hZ
              subst hZ
              clear hcl
              go_enter Tryz.func51, Tryz.ntmps51
              go_wp2_with (first
                | (go_at_call 54; go_loud (refine HN.out.mono ?_; rintro e w1 ⟨rfl, k1⟩; have c1 := (k1.cell (p := ⟨b0, o + NK, none⟩) hbb (by simp)).trans hc))
                | (go_at_call 100; go_loud (refine (HH.out _ k1).mono ?_; rintro e w2 ⟨k2, her, r, N, rfl⟩; have kk2 := k1.then k2; have her1 : (er != 0) = true := (by simpa using her); have her2 : (er == 0) = false := (by simpa using her); have HER := Lib.hid her; clear her)))
              exact bodyPost_ret (v := .tuple #[.slice none 0 0, .int .i64 (k : Int), .int .i64 er]) (by simp only [results, Tryz.results51]; go_simp) rfl ⟨kk2, HER.out, _, k, rfl, .nil⟩
            | ok L =>
              have hxl := hcl L rfl
              have HT := Lib.hid (fun W u (h : RdI .i64 W u L) => r_tree u L W h (by omega))
              simp only at HH hZ
              clear hcl
              unfold finW at hZ
              cases ht : okW L with
              | true =>
                rw [ht, if_pos rfl] at hZ
                subst hZ
                have ht1 : treeOut L = tOf L := by simp [treeOut, ht]
                have ht2 : treeErr L = 0 := by simp [treeErr, ht]
                rw [ht1, ht2] at HT
                clear ht1 ht2 ht hxl
                go_enter Tryz.func51, Tryz.ntmps51
                go_wp2_with (first
                  | (go_at_call 54; go_loud (refine HN.out.mono ?_; rintro e w1 ⟨rfl, k1⟩; have c1 := (k1.cell (p := ⟨b0, o + NK, none⟩) hbb (by simp)).trans hc))
                  | (go_at_call 100; go_loud (refine (HH.out _ k1).mono ?_; rintro e w2 ⟨k2, r, rfl, rd2⟩; have kk2 := k1.then k2; have RD2 := Lib.hid rd2; clear rd2))
                  | (go_at_call 101; go_loud (refine (HT.out _ _ RD2.out).mono ?_; rintro e w3 ⟨v3, rfl, rd3, fr3, k3⟩; have kk3 := kk2.then k3; have FR3 := Lib.hid (fr3.mono kk2.size); clear fr3; have RD3 := Lib.hid rd3; clear rd3)))
                exact bodyPost_ret (v := .tuple #[v3, .int .i64 (C2 : Int), .int .i64 0]) (by simp only [results, Tryz.results51]; go_simp) rfl ⟨kk3, v3, rfl, RD3.out, FR3.out⟩
              | false =>
                rw [ht, if_neg (by simp)] at hZ
                subst hZ
                have ht1 : treeOut L = [] := by simp [treeOut, ht]
                have ht2 : treeErr L = 12 := by simp [treeErr, ht]
                rw [ht1, ht2] at HT
                clear ht1 ht2 ht hxl
                go_enter Tryz.func51, Tryz.ntmps51
                go_wp2_with (first
                  | (go_at_call 54; go_loud (refine HN.out.mono ?_; rintro e w1 ⟨rfl, k1⟩; have c1 := (k1.cell (p := ⟨b0, o + NK, none⟩) hbb (by simp)).trans hc))
                  | (go_at_call 100; go_loud (refine (HH.out _ k1).mono ?_; rintro e w2 ⟨k2, r, rfl, rd2⟩; have kk2 := k1.then k2; have RD2 := Lib.hid rd2; clear rd2))
                  | (go_at_call 101; go_loud (refine (HT.out _ _ RD2.out).mono ?_; rintro e w3 ⟨v3, rfl, rd3, fr3, k3⟩; have kk3 := kk2.then k3; have FR3 := Lib.hid (fr3.mono kk2.size); clear fr3; have RD3 := Lib.hid rd3; clear rd3)))
                exact bodyPost_ret (v := .tuple #[v3, .int .i64 (C2 : Int), .int .i64 12]) (by simp only [results, Tryz.results51]; go_simp) rfl ⟨kk3, by decide, v3, C2, rfl, RD3.out⟩
          · rw [if_neg hx1] at hZ
            subst hZ
            have hx11 : (x == 1) = false := by simpa using hx1
            clear hv hl hb hk hmost hn hx
            go_enter Tryz.func51, Tryz.ntmps51
            go_wp2_with (first
              | (go_at_call 54; go_loud (refine HN.out.mono ?_; rintro e w1 ⟨rfl, k1⟩; have c1 := (k1.cell (p := ⟨b0, o + NK, none⟩) hbb (by simp)).trans hc)))
            exact bodyPost_ret (v := .tuple #[.slice none 0 0, .int .i64 (k : Int), .int .i64 12]) (by simp only [results, Tryz.results51]; go_simp) rfl ⟨k1, by decide, _, k, rfl, .nil⟩
  · rw [if_pos hE] at hZ
    subst hZ
    have hE1 : (NE != 0) = true := by simpa using hE
    have hE2 : (NE == 0) = false := by simpa using hE
    have HE := Lib.hid hE
    clear hv hl hb hk hmost hE hn
    go_enter Tryz.func51, Tryz.ntmps51
    go_wp2_with (first
      | (go_at_call 54; go_loud (refine HN.out.mono ?_; rintro e w1 ⟨rfl, k1⟩)))
    exact bodyPost_ret (v := .tuple #[.slice none 0 0, .int .i64 (k : Int), .int .i64 NE]) (by simp only [results, Tryz.results51]; go_simp) rfl ⟨k1, HE.out, _, k, rfl, .nil⟩
end

section
set_option linter.unusedVariables false
set_option linter.unusedSimpArgs false
open Go.RowKit

theorem mx3_le {N a b c : Int} (h0 : 0 ≤ N) (ha : a ≤ N) (hb : b ≤ N) (hc : c ≤ N) : ¬ N < mxL [a, b, c] := by
  have := mxL_le (l := [a, b, c]) h0 (by simp; exact ⟨ha, hb, hc⟩)
  omega
theorem mx3_a {N a b c : Int} (h : N < a) : N < mxL [a, b, c] := Int.lt_of_lt_of_le h (mxL_ge (by simp))
theorem mx3_b {N a b c : Int} (h : N < b) : N < mxL [a, b, c] := Int.lt_of_lt_of_le h (mxL_ge (by simp))
theorem mx3_c {N a b c : Int} (h : N < c) : N < mxL [a, b, c] := Int.lt_of_lt_of_le h (mxL_ge (by simp))

section
variable {A Z : List Int}
end

section
variable {A Z : List Bool}
end

section
variable {A Z : List Int}
end
end

end Go.Proofs.YtcmagccfagijlaaGreat
