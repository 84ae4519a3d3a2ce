/-
  A cursor over bytes: Number.
  Walks over package dict: Get, for a raw dictionary and where full panics.
  Walks over the reference of package dict: sameInts, the tables' Same, Same, where both are equal.
  Arrays of three numbers are compared.
-/
import Derived.Test.YtcmagccfagijlaaGreatQ18
import Derived.Test.YtcmagccfagijlaaGreatQ17
import Derived.Test.YtcmagccfagijlaaGreatQ15
import Derived.Test.YtcmagccfagijlaaGreatQ11
import Derived.Test.YtcmagccfagijlaaGreatRows
import Derived.ChangeKeysEq
namespace Go.Proofs.YtcmagccfagijlaaGreat
section
set_option linter.unusedVariables false
set_option linter.unusedSimpArgs false
set_option linter.unusedSectionVars false
open Go.RowKit

theorem varX_lt {B : List Int} {k : Nat} (h : k ≤ B.length) : varX B k < 4611686018427387904 := (varR_bound B 9 0 0 k h).1
/-- A varint of at most M. -/
def numE (B : List Int) (k M : Nat) : Int := if varE B k = 0 ∧ M < varX B k then 18 else varE B k
def numX (B : List Int) (k M : Nat) : Nat := if numE B k M = 0 then varX B k else 0
def numK (B : List Int) (k M : Nat) : Nat := if numE B k M = 0 then varK B k else k

set_option maxRecDepth 100000 in
set_option maxHeartbeats 4000000 in
theorem number1_any (p h hm k M : Nat) (v : Value) (B : List Int) (w : World) (hc : Cur w p v B k) (hb : Blk w h #[.pointer (some ⟨p, 0, none⟩)] 71) (hq : Blk w hm #[.int .i64 (M : Int)] 3) (hM : M < 4611686018427387904) (hnp : hm ≠ p) :
    Calls Tryz.prog 134 #[.pointer (some ⟨h, 0, none⟩), .pointer (some ⟨hm, 0, none⟩)] w (CurEnd w p v B (.int .i64 (varX B k : Int)) (numE B k M) (varK B k)) := by
  have HV := Lib.hid (varint_any p k v B w hc)
  have hX := varX_lt hc.le
  have HQ := Lib.hid hq
  obtain ⟨b0, -⟩ := hb.one
  have hE : Hid (numE B k M = if varE B k = 0 ∧ M < varX B k then 18 else varE B k) := rfl
  have hmx : max (M : Int) 0 = (M : Int) := by omega
  have hmm : (M : Int) % 18446744073709551616 = (M : Int) := by omega
  clear hc hb hq
  generalize varX B k = X at *
  generalize varE B k = E at *
  generalize varK B k = K at *
  generalize numE B k M = NE at *
  have hwx : IntKind.i64.wrap (X : Int) = (X : Int) := IntWalk.i64_in _ ⟨by omega, by omega⟩
  by_cases h0 : E = 0
  · subst h0
    by_cases hbig : M < X
    · have hbig' : decide ((M : Int) < (X : Int)) = true := decide_eq_true (by omega)
      have he := hE.out
      rw [if_pos ⟨rfl, hbig⟩] at he
      subst he
      go_enter Tryz.func134, Tryz.ntmps134
      go_wp2_with (refine HV.out.mono ?_; rintro e w2 ⟨rfl, cur2, k2⟩; obtain ⟨m0, -⟩ := (HQ.out.keeps k2 (by simpa using hnp)).one)
      exact bodyPost_ret (v := .tuple #[.int .i64 (X : Int), .int .i64 18]) (by simp [results, Tryz.results134]) rfl ⟨rfl, cur2, k2⟩
    · have hbig' : decide ((M : Int) < (X : Int)) = false := decide_eq_false (by omega)
      have he := hE.out
      rw [if_neg (fun h => hbig h.2)] at he
      subst he
      go_enter Tryz.func134, Tryz.ntmps134
      go_wp2_with (refine HV.out.mono ?_; rintro e w2 ⟨rfl, cur2, k2⟩; obtain ⟨m0, -⟩ := (HQ.out.keeps k2 (by simpa using hnp)).one)
      exact bodyPost_ret (v := .tuple #[.int .i64 (X : Int), .int .i64 0]) (by simp [results, Tryz.results134]) rfl ⟨rfl, cur2, k2⟩
  · have hE0 : (E == 0) = false := by simpa using h0
    have he := hE.out
    rw [if_neg (fun h => h0 h.1)] at he
    subst he
    go_enter Tryz.func134, Tryz.ntmps134
    go_wp2_with (refine HV.out.mono ?_; rintro e w2 ⟨rfl, cur2, k2⟩; obtain ⟨m0, -⟩ := (HQ.out.keeps k2 (by simpa using hnp)).one)
    exact bodyPost_ret (v := .tuple #[.int .i64 (X : Int), .int .i64 NE]) (by simp [results, Tryz.results134]) rfl ⟨rfl, cur2, k2⟩

theorem numX_iff (B : List Int) (k M : Nat) : (if numE B k M = 0 then ((varX B k : Nat) : Int) else 0) = ((numX B k M : Nat) : Int) := by
  unfold numX
  split <;> rfl

set_option maxRecDepth 100000 in
theorem number_any (p k M : Nat) (v : Value) (B : List Int) (w : World) (hc : Cur w p v B k) (hM : M < 4611686018427387904) :
    Calls Tryz.prog 94 #[.pointer (some ⟨p, 0, none⟩), .int .i64 (M : Int)] w (CurEnd w p v B (.int .i64 (numX B k M : Int)) (numE B k M) (numK B k M)) := by
  have hp := hc.old.1
  have k0 : Keeps w ((w.alloc (.cells #[.pointer (some ⟨p, 0, none⟩)] 71)).alloc (.cells #[.int .i64 (M : Int)] 3)) [] := ((Keeps.refl w []).alloc _).alloc _
  have b0 := (Blk.new w #[.pointer (some ⟨p, 0, none⟩)] 71).alloc (.cells #[.int .i64 (M : Int)] 3)
  have b1 := Blk.new (w.alloc (.cells #[.pointer (some ⟨p, 0, none⟩)] 71)) #[.int .i64 (M : Int)] 3
  simp only [World.size_alloc] at b1
  have h := readInt_any p k (varK B k) v B ((w.alloc (.cells #[.pointer (some ⟨p, 0, none⟩)] 71)).alloc (.cells #[.int .i64 (M : Int)] 3)) #[.pointer (some ⟨w.heap.size, 0, none⟩), .pointer (some ⟨w.heap.size + 1, 0, none⟩)] ((varX B k : Nat) : Int) (numE B k M) (hc.keeps k0)
    (fun w1 k1 => number1_any p w.heap.size (w.heap.size + 1) k M v B w1 ((hc.keeps k0).keeps k1) (b0.keeps k1 (by simp)) (b1.keeps k1 (by simp)) hM (by omega))
  rw [numX_iff] at h
  have H : Hid (Calls Tryz.prog 133 #[.pointer (some ⟨p, 0, none⟩), .func (.func 134) #[] #[.pointer (some ⟨w.heap.size, 0, none⟩), .pointer (some ⟨w.heap.size + 1, 0, none⟩)]] ((w.alloc (.cells #[.pointer (some ⟨p, 0, none⟩)] 71)).alloc (.cells #[.int .i64 (M : Int)] 3))
    (CurEnd ((w.alloc (.cells #[.pointer (some ⟨p, 0, none⟩)] 71)).alloc (.cells #[.int .i64 (M : Int)] 3)) p v B (.int .i64 (numX B k M : Int)) (numE B k M) (numK B k M))) := h
  clear h hc
  generalize numX B k M = X at *
  generalize numE B k M = E at *
  generalize numK B k M = K' at *
  go_enter Tryz.func94, Tryz.ntmps94
  go_wp2_with (refine H.out.mono ?_; rintro e w1 ⟨rfl, cur1, k1⟩)
  exact bodyPost_ret (v := .tuple #[.int .i64 (X : Int), .int .i64 E]) (by simp [results, Tryz.results94]) rfl ⟨rfl, cur1, (k0.mono (by simp)).trans k1 (fun j hj _ => hj)⟩

set_option maxRecDepth 100000 in
theorem new_any (v : Value) (B : List Int) (w : World) (hv : RdI .u8 w v B) (hn : B.length ≤ 1000000) (hx : ∀ x ∈ B, 0 ≤ x ∧ x ≤ 255) :
    Calls Tryz.prog 49 #[v] w fun e w' => ∃ p v', e = .returned (.pointer (some ⟨p, 0, none⟩)) ∧ w.heap.size ≤ p ∧ Cur w' p v' B 0 ∧ Keeps w w' [] := by
  have HC := Lib.hid (cloneb_any v B w hv hn)
  obtain ⟨ad, n, c, rfl, -, -⟩ := hv.form
  clear hv
  go_enter Tryz.func49, Tryz.ntmps49
  go_wp2_with (refine HC.out.mono ?_; rintro e w1 ⟨v1, rfl, own1, k1⟩; obtain ⟨a1, c1, rfl⟩ := own_form own1)
  go_ret
  have hs := k1.size
  refine ⟨_, _, rfl, hs, ⟨Blk.new w1 _ _, (own_reads own1).keeps ((Keeps.refl w1 []).alloc _), Nat.zero_le _, hn, ?_, hx⟩, k1.alloc _⟩
  rintro a n' c' he h0 hab
  cases he
  have := (own1.lt _ rfl).2
  omega
end

section
set_option linter.unusedVariables false
set_option linter.unusedSimpArgs false
set_option linter.unusedSectionVars false
open Go.RowKit

/-- Two results, both in blocks. -/
theorem res_cell_cell {fn : Func} {p q : Tmp} {T U : TypeId} (h : fn.results = #[.cell p T, .cell q U]) {tmps : Array Value} {P : Program} {w : World} {a b : Addr} {v u : Value} (ht : tmps.getD p undef = .pointer (some a)) (hu : tmps.getD q undef = .pointer (some b)) (hl : (loadVar T a).run P w = .ok v w) (hm : (loadVar U b).run P w = .ok u w) :
    (results fn tmps).run P w = .ok (.tuple #[v, u]) w := by
  have ht' : tmps[p]?.getD undef = .pointer (some a) := by simpa using ht
  have hu' : tmps[q]?.getD undef = .pointer (some b) := by simpa using hu
  simp [results, h, Sem.run_bind, Result.andThen, ht', hu', asAddr, hl, hm]
theorem load_errno {w : World} {b : Nat} {n : Int} (h : Blk w b #[.int .i64 n] 33) : (loadVar 33 ⟨b, 0, none⟩).run Tryz.prog w = .ok (.int .i64 n) w := by
  obtain ⟨c0, -⟩ := h.one
  go_simp

theorem slice_tail {w0 : World} {v : Value} {B : List Int} (h : RdI .u8 w0 v B) {i : Nat} (hi' : i ≤ B.length) :
    ∃ r, (∀ w, (Instr.slice 22 v (some (.int .i64 (i : Int))) none none).run Tryz.prog w = .ok r w) ∧ RdI .u8 w0 r (B.drop i) := by
  obtain ⟨i0, hi, hz0, hz1, hz2⟩ := info_parts Tryz.infoByte
  obtain ⟨ad, n, c, rfl, hn, hh⟩ := h.form
  have hcap := h.cap
  have run : ∀ w, (Instr.slice 22 (.slice ad n c) (some (.int .i64 (i : Int))) none none).run Tryz.prog w = .ok (.slice (if i < c then ad.map (·.add i) else ad) (n - i) (c - i)) w := by
    intro w
    have a1 : i ≤ n := by omega
    cases ad with
    | none =>
      obtain ⟨rfl, rfl, rfl⟩ := h.nilcap
      obtain rfl : i = 0 := by simp at hi'; omega
      simp [Instr.slice, Instr.sliceBounds, Instr.sliceBound, asIntOf, run_underlying Tryz.underlying22, go_sem, sizeOf, typeInfo, hi, hz1]
    | some a =>
      by_cases hic : i < c
      · have a3 : ¬ c = i := by omega
        simp [Instr.slice, Instr.sliceBounds, Instr.sliceBound, asIntOf, run_underlying Tryz.underlying22, go_sem, sizeOf, typeInfo, hi, hz1, a1, a3, hic]
      · obtain rfl : i = c := by omega
        obtain rfl : i = n := by omega
        simp [Instr.slice, Instr.sliceBounds, Instr.sliceBound, asIntOf, run_underlying Tryz.underlying22, go_sem, sizeOf, typeInfo, hi, hz1]
  refine ⟨_, run, ?_⟩
  by_cases he : n - i = 0
  · rw [he, show B.drop i = [] from List.drop_eq_nil_of_le (by omega)]
    cases ad with
    | none =>
      obtain ⟨rfl, rfl, rfl⟩ := h.nilcap
      have : (0 : Nat) - i = 0 := by omega
      rw [this]
      simp
      exact .nil
    | some a => split <;> exact .zero _ _
  · obtain ⟨b, o, rfl, -, -⟩ := h.addr (by omega)
    rw [if_pos (by omega)]
    have e : Option.map (fun x : Addr => x.add i) (some ⟨b, o, none⟩) = some ⟨b, o + i, none⟩ := by simp [Addr.add]
    rw [e]
    have := h.piece (p := i) (q := n - i) (by omega) (c - i) (by omega)
    rwa [List.take_of_length_le (by simp; omega)] at this

set_option maxRecDepth 100000 in
set_option maxHeartbeats 4000000 in
theorem get_raw (v : Value) (l : List Int) (w : World) (hv : RdI .u8 w v l) (hl : ∀ x ∈ l, 0 ≤ x ∧ x ≤ 255) (hn : l.length ≤ 1000000) (hm : markB l = false) :
    Calls Tryz.prog 24 #[v] w fun e w' => ∃ x, e = .returned (.tuple #[.agg (rawC x), .int .i64 0]) ∧ RdI .u8 w' x l ∧ Fresh w.heap.size x ∧ Keeps w w' [] := by
  have HM := Lib.hid (fun w1 (k : Keeps w w1 []) => marked_any v l w1 (hv.keeps k) hl)
  have HR := Lib.hid (fun w1 (k : Keeps w w1 []) => raw_yes v l w1 (hv.keeps k) hl hn hm)
  rw [hm] at HM
  obtain ⟨A0, n, c, rfl, -, -⟩ := hv.form
  have k0 : Keeps w ((w.alloc (.cells zeroC 32)).alloc (.cells #[.int .i64 0] 33)) [] := ((Keeps.refl w []).alloc _).alloc _
  have bd := (Blk.new w zeroC 32).alloc (.cells #[.int .i64 0] 33)
  have be := Blk.new (w.alloc (.cells zeroC 32)) #[.int .i64 0] 33
  simp only [World.size_alloc] at be
  clear hv hl hm hn
  go_enter_defers Tryz.func24, Tryz.ntmps24
  go_wp2_with (first
    | (go_at_call 31; go_loud (refine (HM.out _ k0).mono ?_; rintro e w1 ⟨rfl, k1⟩; have bd1 := bd.keeps k1 (by simp); have be1 := be.keeps k1 (by simp); have kw1 := k0.then k1))
    | (go_at_call 12; go_loud (refine (HR.out _ kw1).mono ?_; rintro e w2 ⟨x2, rfl, rx, fx, k2⟩; obtain ⟨xa, xm, xc, rfl, -, -⟩ := rx.form; have bd2 := bd1.keeps k2 (by simp); have be2 := be1.keeps k2 (by simp); have kw2 := kw1.then k2))
    | (refine wpList_store_blk rfl 32 _ _ rfl w.heap.size (rawC (.slice xa xm xc)) rfl rfl _ _ bd2 dict_size rfl (by simp [Value.oneCell']) ?_; intro W3 bd3 k3; have be3 := be2.keeps k3 (by simp); obtain ⟨e3, e4⟩ := be3.one))
  have hs := kw1.size
  have l1 := be1.lt
  have kf : Keeps W3 (W3.setCell ⟨w.heap.size + 1, 0, none⟩ (.int .i64 0)) [w.heap.size + 1] := (Keeps.refl _ _).setCell (.inr (by simp)) _
  have bd4 := bd3.keeps kf (by simp)
  have be4 := zone be3 (.int .i64 0)
  have rx4 := (rx.keepsS k3 (fun ad n' c' he h0 hm => by have := fx ad n' c' he; simp at hm; omega)).keepsS kf (fun ad n' c' he h0 hm => by have := fx ad n' c' he; simp at hm; omega)
  refine ⟨.tuple #[.agg (rawC (.slice xa xm xc)), .int .i64 0], res_cell_cell rfl rfl rfl (load_dict bd4 rfl) (load_errno be4), _, rfl, rx4, fx.mono hs, ?_⟩
  exact (kw2.trans k3 (fun j hj hlt => by simp at hj; omega)).trans kf (fun j hj hlt => by simp at hj; omega)

set_option maxRecDepth 100000 in
set_option maxHeartbeats 4000000 in
theorem get_bad (v : Value) (l : List Int) (n : Int) (w : World) (hv : RdI .u8 w v l) (hl : ∀ x ∈ l, 0 ≤ x ∧ x ≤ 255) (hn : l.length ≤ 1000000) (hm : markB l = true)
    (hfull : ∀ W p v', Cur W p v' (l.drop 4) 0 → Calls Tryz.prog 48 #[.pointer (some ⟨p, 0, none⟩)] W fun e w' => e = .panicked [raisedBy n false] ∧ Keeps W w' [p]) :
    Calls Tryz.prog 24 #[v] w fun e w' => e = .returned (.tuple #[.agg zeroC, .int .i64 n]) ∧ Keeps w w' [] := by
  have hmf : ∀ (fn : Fn) (first cap : Array Value) (w : World), (Instr.makeFunc fn first cap).run Tryz.prog w = .ok (.func fn first cap) w := fun _ _ _ _ => rfl
  have HM := Lib.hid (fun w1 (k : Keeps w w1 []) => marked_any v l w1 (hv.keeps k) hl)
  rw [hm] at HM
  have h4 : 4 ≤ l.length := by
    have := congrArg List.length (of_decide_eq_true hm)
    simp at this; omega
  obtain ⟨r, hr0, rr⟩ := slice_tail hv (i := 4) h4
  have hr : ∀ w, (Instr.slice 22 v (some (.int .i64 4)) none none).run Tryz.prog w = .ok r w := hr0
  have HNW := Lib.hid (fun w1 (k : Keeps w w1 []) => new_any r (l.drop 4) w1 (rr.keeps k) (by simp; omega) (fun x hx => hl x (List.mem_of_mem_drop hx)))
  have HF := Lib.hid hfull
  obtain ⟨A0, m, c, rfl, -, -⟩ := hv.form
  have k0 : Keeps w ((w.alloc (.cells zeroC 32)).alloc (.cells #[.int .i64 0] 33)) [] := ((Keeps.refl w []).alloc _).alloc _
  have bd := (Blk.new w zeroC 32).alloc (.cells #[.int .i64 0] 33)
  have be := Blk.new (w.alloc (.cells zeroC 32)) #[.int .i64 0] 33
  simp only [World.size_alloc] at be
  clear hv hl hm hn hfull rr hr0 h4
  go_enter_defers Tryz.func24, Tryz.ntmps24
  go_wp2_with (first
    | (go_at_call 31; go_loud (refine (HM.out _ k0).mono ?_; rintro e w1 ⟨rfl, k1⟩; have bd1 := bd.keeps k1 (by simp); have be1 := be.keeps k1 (by simp); have kw1 := k0.then k1))
    | (go_at_call 49; go_loud (refine (HNW.out _ kw1).mono ?_; rintro e w2 ⟨p, v2, rfl, hp, cur2, k2⟩; have bd2 := bd1.keeps k2 (by simp); have be2 := be1.keeps k2 (by simp); have kw2 := kw1.then k2))
    | (go_at_call 48; go_loud (refine (HF.out _ _ _ cur2).mono ?_; rintro e w3 ⟨rfl, k3⟩)))
  have l1 := be1.lt
  have hs := kw1.size
  have bd3 := bd2.keeps k3 (by simp; omega)
  have be3 := be2.keeps k3 (by simp; omega)
  have kw3 := kw2.trans k3 (fun j hj hlt => by simp at hj; omega)
  refine leaves_cons (f := 47) (args := #[.pointer (some ⟨w.heap.size, 0, none⟩), .pointer (some ⟨w.heap.size + 1, 0, none⟩)]) (by simp) (by simp [go_sem]) ?_
  refine (dget_back _ _ n _ [] _ bd3 be3 (by omega)).mono ?_
  rintro e u' w4 ⟨rfl, rfl, bd4, be4, k4⟩
  exact ⟨.tuple #[.agg zeroC, .int .i64 n], res_cell_cell rfl rfl rfl (load_dict bd4 rfl) (load_errno be4), rfl, kw3.trans k4 (fun j hj hlt => by simp at hj; omega)⟩
end

section
set_option linter.unusedVariables false
set_option linter.unusedSimpArgs false
set_option linter.unusedSectionVars false
open Go.RowKit

set_option maxHeartbeats 1000000 in
theorem sameInts_yes (v1 v2 : Value) (l : List Int) (w : World) (h1 : RdI .i64 w v1 l) (h2 : RdI .i64 w v2 l) (hn : l.length ≤ 1000000) :
    Calls Tryz.prog 34 #[v1, v2] w fun e w' => e = .returned (.bool true) ∧ ∃ m, w' = w.drewN m := by
  obtain ⟨A1, n, c1, rfl, hn1, -⟩ := h1.form
  obtain ⟨A2, n2, c2, rfl, hn2, -⟩ := h2.form
  obtain rfl : n2 = n := by omega
  have H1 := Lib.hid h1
  have H2 := Lib.hid h2
  have HN := Lib.hid hn1
  have hn' : n2 ≤ 1000000 := by omega
  clear h1 h2 hn1 hn2 hn
  go_enter Tryz.func34, Tryz.ntmps34
  go_wp2_with fail
  go_loopw [5] (fun i wr => ∃ k nd : Nat, k ≤ n2 ∧ i = .int .i64 k ∧ wr = w.drewN nd) (fun i _ => n2 - (intOf i).toNat)
  case atStart => exact ⟨0, 0, Nat.zero_le _, rfl, rfl⟩
  case round =>
    obtain ⟨k, nd, hk, rfl, rfl⟩ := hrel
    by_cases hlt : k < n2
    · obtain ⟨x, hx⟩ : ∃ x, l[k]? = some x := ⟨_, List.getElem?_eq_getElem (by have := HN.out; omega)⟩
      obtain ⟨b, o, rfl, hb, hc⟩ := H1.out.at hx
      obtain ⟨b2, o2, rfl, hb2, hc2⟩ := H2.out.at hx
      have hcap := H1.out.cap
      have hcap2 := H2.out.cap
      have hkn : (k : Int) < (n2 : Int) := by omega
      have hk0 : (0 : Int) ≤ (k : Int) := Int.natCast_nonneg _
      clear hx
      go_wp2_with fail
      go_quiet (fail)
      go_wp2_with fail
      go_roundw
      case rel => exact ⟨k + 1, nd + nq, by omega, by go_num, rfl⟩
      case measure => simp [intOf]; omega
    · have : k = n2 := by omega
      subst this
      go_wp2_with fail
      go_ret
      exact ⟨rfl, _, rfl⟩


set_option maxRecDepth 100000 in
set_option maxHeartbeats 2000000 in
theorem tsame_yes (g : Int) (v1 v2 : Value) (l : List Int) (w : World) (h1 : RdI .i64 w v1 l) (h2 : RdI .i64 w v2 l) (hn : l.length ≤ 1000000) :
    Calls Tryz.prog 35 #[.agg #[.int .i64 g, v1], .agg #[.int .i64 g, v2]] w fun e w' => e = .returned (.bool true) ∧ Keeps w w' [] := by
  obtain ⟨A1, n, c1, rfl, hn1, -⟩ := h1.form
  obtain ⟨A2, n2, c2, rfl, hn2, -⟩ := h2.form
  obtain rfl : n2 = n := by omega
  have H1 := Lib.hid h1
  have H2 := Lib.hid h2
  have HN := Lib.hid hn1
  have hn' : n2 ≤ 1000000 := by omega
  have k0 : Keeps w ((w.alloc (.cells #[.int .i64 g, .slice A1 n2 c1] 27)).alloc (.cells #[.int .i64 g, .slice A2 n2 c2] 27)) [] := ((Keeps.refl w []).alloc _).alloc _
  have b1 := (Blk.new w #[.int .i64 g, .slice A1 n2 c1] 27).alloc (.cells #[.int .i64 g, .slice A2 n2 c2] 27)
  have b2 := Blk.new (w.alloc (.cells #[.int .i64 g, .slice A1 n2 c1] 27)) #[.int .i64 g, .slice A2 n2 c2] 27
  simp only [World.size_alloc] at b2
  clear h1 h2 hn1 hn2 hn
  go_enter Tryz.func35, Tryz.ntmps35
  go_wp2_with fail
  generalize ((w.alloc (.cells #[.int .i64 g, .slice A1 n2 c1] 27)).alloc (.cells #[.int .i64 g, .slice A2 n2 c2] 27)) = w0 at *
  obtain ⟨p1, p2⟩ := (⟨b1.cell 1, b2.cell 1⟩ : _ ∧ _)
  simp at p1 p2
  go_loopw [5] (fun i wr => ∃ k nd : Nat, k ≤ n2 ∧ i = .int .i64 k ∧ wr = w0.drewN nd) (fun i _ => n2 - (intOf i).toNat)
  case atStart => exact ⟨0, 0, Nat.zero_le _, rfl, rfl⟩
  case round =>
    obtain ⟨k, nd, hk, rfl, rfl⟩ := hrel
    by_cases hlt : k < n2
    · obtain ⟨x, hx⟩ : ∃ x, l[k]? = some x := ⟨_, List.getElem?_eq_getElem (by have := HN.out; omega)⟩
      obtain ⟨b, o, rfl, hb, hc⟩ := H1.out.at hx
      obtain ⟨bb, oo, rfl, hbb, hcc⟩ := H2.out.at hx
      have hcap := H1.out.cap
      have hcap2 := H2.out.cap
      have hkn : (k : Int) < (n2 : Int) := by omega
      have hk0 : (0 : Int) ≤ (k : Int) := Int.natCast_nonneg _
      have hc' := (k0.cell (p := ⟨b, o + k, none⟩) hb (by simp)).trans hc
      have hcc' := (k0.cell (p := ⟨bb, oo + k, none⟩) hbb (by simp)).trans hcc
      clear hx hc hcc b1 b2
      go_wp2_with fail
      go_quiet (fail)
      go_wp2_with fail
      go_roundw
      case rel => exact ⟨k + 1, nd + nq, by omega, by go_num, rfl⟩
      case measure => simp [intOf]; omega
    · have : k = n2 := by omega
      subst this
      clear b1 b2
      go_wp2_with fail
      go_ret
      exact ⟨rfl, k0.drewN _⟩
end

section
set_option linter.unusedVariables false
set_option linter.unusedSimpArgs false
open Go.RowKit

theorem eq_three (a b c a' b' c' : Int) (w : World) : (Op.equalIn 10000 28 (.agg #[.int .i64 a, .int .i64 b, .int .i64 c]) (.agg #[.int .i64 a', .int .i64 b', .int .i64 c'])).run Tryz.prog w = .ok (a == a' && (b == b' && c == c')) w := by
  obtain ⟨i, hi, -⟩ := info_parts Tryz.infoInt
  rw [show (10000 : Nat) = 9999 + 1 from rfl, run_equalIn_array w 9999 _ _ Tryz.underlying28 hi]
  have hc : Tryz.prog.cellsOf 3 = 1 := by kernel_rfl
  have hp : ∀ (xs : Array Value) (j : Nat) (v : Value), xs[j]? = some v → (part 3 xs j).run Tryz.prog w = .ok v w := fun xs j v h => by
    have ha : (isAgg 3).run Tryz.prog w = .ok false w := by kernel_rfl
    simp [part, Sem.run_bind, ha, h]
  have he : ∀ x y : Int, (Op.equalIn 9999 3 (.int .i64 x) (.int .i64 y)).run Tryz.prog w = .ok (x == y) w := fun x y => by
    rw [show (9999 : Nat) = 9998 + 1 from rfl, Op.equalIn]
    simp [go_sem]
  rw [show List.range 3 = [0, 1, 2] from rfl, hc]
  have h0 := hp #[Value.int .i64 a, .int .i64 b, .int .i64 c] (0 * 1) (.int .i64 a) rfl
  have h1 := hp #[Value.int .i64 a, .int .i64 b, .int .i64 c] (1 * 1) (.int .i64 b) rfl
  have h2 := hp #[Value.int .i64 a, .int .i64 b, .int .i64 c] (2 * 1) (.int .i64 c) rfl
  have h0' := hp #[Value.int .i64 a', .int .i64 b', .int .i64 c'] (0 * 1) (.int .i64 a') rfl
  have h1' := hp #[Value.int .i64 a', .int .i64 b', .int .i64 c'] (1 * 1) (.int .i64 b') rfl
  have h2' := hp #[Value.int .i64 a', .int .i64 b', .int .i64 c'] (2 * 1) (.int .i64 c') rfl
  have heA := he a a'
  have heB := he b b'
  have heC := he c c'
  clear he hp
  generalize (a == a') = A at *
  generalize (b == b') = B at *
  generalize (c == c') = C at *
  simp only [Nat.zero_mul, Nat.mul_one] at h0 h1 h2 h0' h1' h2'
  cases A <;> cases B <;> cases C <;> simp [Op.eqItems, Sem.run_bind, h0, h1, h2, h0', h1', h2', heA, heB, heC]
end

end Go.Proofs.YtcmagccfagijlaaGreat
