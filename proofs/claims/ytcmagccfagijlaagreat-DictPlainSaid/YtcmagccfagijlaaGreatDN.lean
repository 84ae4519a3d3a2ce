/-
  Walks over package dict: Get, for a raw dictionary and where full panics.
-/
import Derived.Test.YtcmagccfagijlaaGreatDM
import Derived.Test.YtcmagccfagijlaaGreatVK
namespace Go.Proofs.YtcmagccfagijlaaGreat
set_option linter.unusedVariables false
set_option linter.unusedSimpArgs false
set_option linter.unusedSectionVars false
open Go.RowKit

/-- Two results, both in blocks. -/
theorem res_cell_cell {fn : Func} {p q : Tmp} {T U : TypeId} (h : fn.results = #[.cell p T, .cell q U]) {tmps : Array Value} {P : Program} {w : World} {a b : Addr} {v u : Value} (ht : tmps.getD p undef = .pointer (some a)) (hu : tmps.getD q undef = .pointer (some b)) (hl : (loadVar T a).run P w = .ok v w) (hm : (loadVar U b).run P w = .ok u w) :
    (results fn tmps).run P w = .ok (.tuple #[v, u]) w := by
  have ht' : tmps[p]?.getD undef = .pointer (some a) := by simpa using ht
  have hu' : tmps[q]?.getD undef = .pointer (some b) := by simpa using hu
  simp [results, h, Sem.run_bind, Result.andThen, ht', hu', asAddr, hl, hm]
theorem load_errno {w : World} {b : Nat} {n : Int} (h : Blk w b #[.int .i64 n] 33) : (loadVar 33 ⟨b, 0, none⟩).run Tryz.prog w = .ok (.int .i64 n) w := by
  obtain ⟨c0, -⟩ := h.one
  go_simp

theorem slice_tail {w0 : World} {v : Value} {B : List Int} (h : RdI .u8 w0 v B) {i : Nat} (hi' : i ≤ B.length) :
    ∃ r, (∀ w, (Instr.slice 22 v (some (.int .i64 (i : Int))) none none).run Tryz.prog w = .ok r w) ∧ RdI .u8 w0 r (B.drop i) := by
  obtain ⟨i0, hi, hz0, hz1, hz2⟩ := info_parts Tryz.infoByte
  obtain ⟨ad, n, c, rfl, hn, hh⟩ := h.form
  have hcap := h.cap
  have run : ∀ w, (Instr.slice 22 (.slice ad n c) (some (.int .i64 (i : Int))) none none).run Tryz.prog w = .ok (.slice (if i < c then ad.map (·.add i) else ad) (n - i) (c - i)) w := by
    intro w
    have a1 : i ≤ n := by omega
    cases ad with
    | none =>
      obtain ⟨rfl, rfl, rfl⟩ := h.nilcap
      obtain rfl : i = 0 := by simp at hi'; omega
      simp [Instr.slice, Instr.sliceBounds, Instr.sliceBound, asIntOf, run_underlying Tryz.underlying22, go_sem, sizeOf, typeInfo, hi, hz1]
    | some a =>
      by_cases hic : i < c
      · have a3 : ¬ c = i := by omega
        simp [Instr.slice, Instr.sliceBounds, Instr.sliceBound, asIntOf, run_underlying Tryz.underlying22, go_sem, sizeOf, typeInfo, hi, hz1, a1, a3, hic]
      · obtain rfl : i = c := by omega
        obtain rfl : i = n := by omega
        simp [Instr.slice, Instr.sliceBounds, Instr.sliceBound, asIntOf, run_underlying Tryz.underlying22, go_sem, sizeOf, typeInfo, hi, hz1]
  refine ⟨_, run, ?_⟩
  by_cases he : n - i = 0
  · rw [he, show B.drop i = [] from List.drop_eq_nil_of_le (by omega)]
    cases ad with
    | none =>
      obtain ⟨rfl, rfl, rfl⟩ := h.nilcap
      have : (0 : Nat) - i = 0 := by omega
      rw [this]
      simp
      exact .nil
    | some a => split <;> exact .zero _ _
  · obtain ⟨b, o, rfl, -, -⟩ := h.addr (by omega)
    rw [if_pos (by omega)]
    have e : Option.map (fun x : Addr => x.add i) (some ⟨b, o, none⟩) = some ⟨b, o + i, none⟩ := by simp [Addr.add]
    rw [e]
    have := h.piece (p := i) (q := n - i) (by omega) (c - i) (by omega)
    rwa [List.take_of_length_le (by simp; omega)] at this

set_option maxRecDepth 100000 in
set_option maxHeartbeats 4000000 in
theorem get_raw (v : Value) (l : List Int) (w : World) (hv : RdI .u8 w v l) (hl : ∀ x ∈ l, 0 ≤ x ∧ x ≤ 255) (hn : l.length ≤ 1000000) (hm : markB l = false) :
    Calls Tryz.prog 24 #[v] w fun e w' => ∃ x, e = .returned (.tuple #[.agg (rawC x), .int .i64 0]) ∧ RdI .u8 w' x l ∧ Fresh w.heap.size x ∧ Keeps w w' [] := by
  have HM := Lib.hid (fun w1 (k : Keeps w w1 []) => marked_any v l w1 (hv.keeps k) hl)
  have HR := Lib.hid (fun w1 (k : Keeps w w1 []) => raw_yes v l w1 (hv.keeps k) hl hn hm)
  rw [hm] at HM
  obtain ⟨A0, n, c, rfl, -, -⟩ := hv.form
  have k0 : Keeps w ((w.alloc (.cells zeroC 32)).alloc (.cells #[.int .i64 0] 33)) [] := ((Keeps.refl w []).alloc _).alloc _
  have bd := (Blk.new w zeroC 32).alloc (.cells #[.int .i64 0] 33)
  have be := Blk.new (w.alloc (.cells zeroC 32)) #[.int .i64 0] 33
  simp only [World.size_alloc] at be
  clear hv hl hm hn
  go_enter_defers Tryz.func24, Tryz.ntmps24
  go_wp2_with (first
    | (go_at_call 31; go_loud (refine (HM.out _ k0).mono ?_; rintro e w1 ⟨rfl, k1⟩; have bd1 := bd.keeps k1 (by simp); have be1 := be.keeps k1 (by simp); have kw1 := k0.then k1))
    | (go_at_call 12; go_loud (refine (HR.out _ kw1).mono ?_; rintro e w2 ⟨x2, rfl, rx, fx, k2⟩; obtain ⟨xa, xm, xc, rfl, -, -⟩ := rx.form; have bd2 := bd1.keeps k2 (by simp); have be2 := be1.keeps k2 (by simp); have kw2 := kw1.then k2))
    | (refine wpList_store_blk rfl 32 _ _ rfl w.heap.size (rawC (.slice xa xm xc)) rfl rfl _ _ bd2 dict_size rfl (by simp [Value.oneCell']) ?_; intro W3 bd3 k3; have be3 := be2.keeps k3 (by simp); obtain ⟨e3, e4⟩ := be3.one))
  have hs := kw1.size
  have l1 := be1.lt
  have kf : Keeps W3 (W3.setCell ⟨w.heap.size + 1, 0, none⟩ (.int .i64 0)) [w.heap.size + 1] := (Keeps.refl _ _).setCell (.inr (by simp)) _
  have bd4 := bd3.keeps kf (by simp)
  have be4 := zone be3 (.int .i64 0)
  have rx4 := (rx.keepsS k3 (fun ad n' c' he h0 hm => by have := fx ad n' c' he; simp at hm; omega)).keepsS kf (fun ad n' c' he h0 hm => by have := fx ad n' c' he; simp at hm; omega)
  refine ⟨.tuple #[.agg (rawC (.slice xa xm xc)), .int .i64 0], res_cell_cell rfl rfl rfl (load_dict bd4 rfl) (load_errno be4), _, rfl, rx4, fx.mono hs, ?_⟩
  exact (kw2.trans k3 (fun j hj hlt => by simp at hj; omega)).trans kf (fun j hj hlt => by simp at hj; omega)

set_option maxRecDepth 100000 in
set_option maxHeartbeats 4000000 in
theorem get_bad (v : Value) (l : List Int) (n : Int) (w : World) (hv : RdI .u8 w v l) (hl : ∀ x ∈ l, 0 ≤ x ∧ x ≤ 255) (hn : l.length ≤ 1000000) (hm : markB l = true)
    (hfull : ∀ W p v', Cur W p v' (l.drop 4) 0 → Calls Tryz.prog 48 #[.pointer (some ⟨p, 0, none⟩)] W fun e w' => e = .panicked [raisedBy n false] ∧ Keeps W w' [p]) :
    Calls Tryz.prog 24 #[v] w fun e w' => e = .returned (.tuple #[.agg zeroC, .int .i64 n]) ∧ Keeps w w' [] := by
  have hmf : ∀ (fn : Fn) (first cap : Array Value) (w : World), (Instr.makeFunc fn first cap).run Tryz.prog w = .ok (.func fn first cap) w := fun _ _ _ _ => rfl
  have HM := Lib.hid (fun w1 (k : Keeps w w1 []) => marked_any v l w1 (hv.keeps k) hl)
  rw [hm] at HM
  have h4 : 4 ≤ l.length := by
    have := congrArg List.length (of_decide_eq_true hm)
    simp at this; omega
  obtain ⟨r, hr0, rr⟩ := slice_tail hv (i := 4) h4
  have hr : ∀ w, (Instr.slice 22 v (some (.int .i64 4)) none none).run Tryz.prog w = .ok r w := hr0
  have HNW := Lib.hid (fun w1 (k : Keeps w w1 []) => new_any r (l.drop 4) w1 (rr.keeps k) (by simp; omega) (fun x hx => hl x (List.mem_of_mem_drop hx)))
  have HF := Lib.hid hfull
  obtain ⟨A0, m, c, rfl, -, -⟩ := hv.form
  have k0 : Keeps w ((w.alloc (.cells zeroC 32)).alloc (.cells #[.int .i64 0] 33)) [] := ((Keeps.refl w []).alloc _).alloc _
  have bd := (Blk.new w zeroC 32).alloc (.cells #[.int .i64 0] 33)
  have be := Blk.new (w.alloc (.cells zeroC 32)) #[.int .i64 0] 33
  simp only [World.size_alloc] at be
  clear hv hl hm hn hfull rr hr0 h4
  go_enter_defers Tryz.func24, Tryz.ntmps24
  go_wp2_with (first
    | (go_at_call 31; go_loud (refine (HM.out _ k0).mono ?_; rintro e w1 ⟨rfl, k1⟩; have bd1 := bd.keeps k1 (by simp); have be1 := be.keeps k1 (by simp); have kw1 := k0.then k1))
    | (go_at_call 49; go_loud (refine (HNW.out _ kw1).mono ?_; rintro e w2 ⟨p, v2, rfl, hp, cur2, k2⟩; have bd2 := bd1.keeps k2 (by simp); have be2 := be1.keeps k2 (by simp); have kw2 := kw1.then k2))
    | (go_at_call 48; go_loud (refine (HF.out _ _ _ cur2).mono ?_; rintro e w3 ⟨rfl, k3⟩)))
  have l1 := be1.lt
  have hs := kw1.size
  have bd3 := bd2.keeps k3 (by simp; omega)
  have be3 := be2.keeps k3 (by simp; omega)
  have kw3 := kw2.trans k3 (fun j hj hlt => by simp at hj; omega)
  refine leaves_cons (f := 47) (args := #[.pointer (some ⟨w.heap.size, 0, none⟩), .pointer (some ⟨w.heap.size + 1, 0, none⟩)]) (by simp) (by simp [go_sem]) ?_
  refine (dget_back _ _ n _ [] _ bd3 be3 (by omega)).mono ?_
  rintro e u' w4 ⟨rfl, rfl, bd4, be4, k4⟩
  exact ⟨.tuple #[.agg zeroC, .int .i64 n], res_cell_cell rfl rfl rfl (load_dict bd4 rfl) (load_errno be4), rfl, kw3.trans k4 (fun j hj hlt => by simp at hj; omega)⟩

end Go.Proofs.YtcmagccfagijlaaGreat
