/-
  Walks over package weights: is, must, the deferred function, of.
-/
import Derived.Test.YtcmagccfagijlaaGreatCB
import Derived.Test.YtcmagccfagijlaaGreatMy
namespace Go.Proofs.YtcmagccfagijlaaGreat
set_option linter.unusedVariables false
set_option linter.unusedSimpArgs false
set_option linter.unusedSectionVars false
open Go.RowKit

/-- The slice lies behind the memory that was there. -/
def Fresh (base : Nat) (v : Value) : Prop := ∀ ad n c, v = .slice (some ad) n c → base ≤ ad.block
theorem Fresh.nil {b : Nat} : Fresh b (.slice none 0 0) := fun _ _ _ h => by cases h
theorem Fresh.mono {b b' : Nat} {v : Value} (h : Fresh b v) (hb : b' ≤ b) : Fresh b' v := fun ad n c e => Nat.le_trans hb (h ad n c e)

theorem wis_yes {b : Bool} (h : b = true) (n : Int) (w : World) : Calls Tryz.prog 125 #[.bool b, .int .i64 n] w fun e w' => e = .returned (.tuple #[]) ∧ w = w' := by
  subst h
  go_enter Tryz.func125, Tryz.ntmps125
  go_wp2
  go_end0
  exact ⟨rfl, rfl⟩
theorem wis_no {b : Bool} (h : b = false) (n : Int) (w : World) : Calls Tryz.prog 125 #[.bool b, .int .i64 n] w fun e w' => e = .panicked [raisedBy n false] ∧ w = w' := by
  subst h
  go_enter Tryz.func125, Tryz.ntmps125
  go_wp2
  exact ⟨rfl, rfl, rfl⟩
theorem wmust_yes (bf : Nat) (w : World) (h : Blk w bf #[.int .i64 0] 33) : Calls Tryz.prog 143 #[.slice (some ⟨bf, 0, none⟩) 1 1] w fun e w' => e = .returned (.tuple #[]) ∧ w = w' := by
  obtain ⟨c0, -⟩ := h.one
  go_enter Tryz.func143, Tryz.ntmps143
  go_wp2_with fail
  refine wp_loop_rounds 2 ?_
  rw [rounds_succ]
  go_wp2_with fail
  rw [rounds_succ]
  go_wp2_with fail
  go_end0
  exact ⟨rfl, rfl⟩
theorem wmust_no (n : Int) (hn : n ≠ 0) (bf : Nat) (w : World) (h : Blk w bf #[.int .i64 n] 33) : Calls Tryz.prog 143 #[.slice (some ⟨bf, 0, none⟩) 1 1] w fun e w' => e = .panicked [raisedBy n false] ∧ w = w' := by
  obtain ⟨c0, -⟩ := h.one
  go_enter Tryz.func143, Tryz.ntmps143
  go_wp2_with fail
  refine wp_loop_rounds 1 ?_
  rw [rounds_succ]
  go_wp2_with fail
  exact ⟨rfl, rfl, rfl⟩

/-- The deferred function of a call that returns: it does nothing. -/
theorem wcaught_idle (p : Addr) (f : Value) (w : World) :
    CallsD Tryz.prog 107 #[.pointer (some p), f] .returning w fun e u' w' => e = .returned (.tuple #[]) ∧ u' = .returning ∧ w' = w := by
  refine callsD_of_wpS Tryz.func107 rfl fun c₀ cs hu => ?_
  simp only [Tryz.ntmps107, List.size_toArray, List.length_cons, List.length_nil, Nat.reduceAdd, Nat.reduceSub, Array.replicate_succ, Array.replicate_zero, List.push_toArray, List.append_toArray, List.nil_append, List.cons_append]
  apply wpS_seq
  apply wpS_region
  simp [wpOpsS, go_sem, recoverD, hu, Exit.thenS]
  refine wpS_of_wp ?_
  have HU := Lib.hid hu
  clear hu
  go_wp2
  refine ⟨rfl, .returning, ?_, .tuple #[], by simp [results, Tryz.results107], rfl, rfl, rfl⟩
  have hu := HU.out
  cases c₀
  simp_all

set_option maxHeartbeats 600000 in
/-- The deferred function where an error was raised: the result is cleared, the error is laid. -/
theorem wcaught_dec (pe po : Nat) (n : Int) (x z : Value) (te tq : TypeId) (older : List PanicEntry) (w : World) (he : Blk w pe #[z] te) (ho : Blk w po #[x] tq) (h1 : pe ≠ po) :
    CallsD Tryz.prog 107 #[.pointer (some ⟨pe, 0, none⟩), .func (.func 123) #[] #[.pointer (some ⟨po, 0, none⟩)]] (.panicking (raisedBy n false :: older)) w fun e u' w' =>
      e = .returned (.tuple #[]) ∧ u' = .panicking (raisedBy n true :: older) ∧ w' = (w.setCell ⟨po, 0, none⟩ (.slice none 0 0)).setCell ⟨pe, 0, none⟩ (.int .i64 n) := by
  obtain ⟨c0, f0⟩ := he.one
  obtain ⟨c1, f1⟩ := ho.one
  have hta : ∀ w : World, (Instr.typeAssert (.iface 33 (.int .i64 n)) 20 33 true).run Tryz.prog w = .ok (.tuple #[.int .i64 n, .bool true]) w := fun _ => by kernel_rfl
  have h1' := h1.symm
  refine callsD_of_wpS Tryz.func107 rfl fun c₀ cs hu => ?_
  simp only [Tryz.ntmps107, List.size_toArray, List.length_cons, List.length_nil, Nat.reduceAdd, Nat.reduceSub, Array.replicate_succ, Array.replicate_zero, List.push_toArray, List.append_toArray, List.nil_append, List.cons_append]
  apply wpS_seq
  apply wpS_region
  simp [wpOpsS, go_sem, recoverD, hu, Exit.thenS, raisedBy]
  refine wpS_of_wp ?_
  have HU := Lib.hid hu
  clear hu
  go_wp2
  go_end0
  go_wp2
  refine ⟨rfl, .panicking (raisedBy n true :: older), ?_, .tuple #[], by simp [results, Tryz.results107], rfl, rfl, rfl⟩
  simp [raisedBy]

theorem ints_reads {w : World} {B m : Nat} {h : List Int} {T : TypeId} (hb : Blk w B (ints h) T) (hm : m ≤ h.length) : RdI .i64 w (.slice (some ⟨B, 0, none⟩) m m) (h.take m) :=
  ⟨_, _, _, rfl, by simp; omega, (fun h => by cases h), fun h0 => ⟨Nat.le_refl _, B, 0, rfl, hb.lt, fun i x hx => by
    rw [List.getElem?_take] at hx
    split at hx
    · rw [Nat.zero_add, hb.cell, ints_get hx]
    · cases hx⟩⟩
theorem Tryz.infoInt : (Tryz.prog.info? 3).map (fun i => (i.zero, i.size, i.bytes)) = some (some (.int .i64 0), 1, 8) := by kernel_rfl
theorem make_ints (n : Nat) (hn : n ≤ 1000000) (w : World) : (Instr.makeSlice 25 (.int .i64 (n : Int)) (.int .i64 (n : Int))).run Tryz.prog w = .ok (.slice (some ⟨w.heap.size, 0, none⟩) n n) (w.alloc (.cells (ints (List.replicate n 0)) 3)) := by
  obtain ⟨i0, hi, hz0, hz1, hz2⟩ := info_parts Tryz.infoInt
  have hr := run_make (P := Tryz.prog) w 25 3 i0 (.int .i64 0) Tryz.underlying25 hi hz0 .i64 .i64 n n (by omega) (Int.le_refl _) (by rw [hz2]; omega) (by omega)
  simp only [Int.toNat_natCast] at hr
  rw [hr]
  have e : (madeCells (Value.int .i64 0).cells (n * i0.size)) = ints (List.replicate n 0) := by
    rw [hz1, Nat.mul_one]
    apply Array.toList_inj.1
    exact (toList_madeCells_one _ n).trans (by simp [ints])
  rw [e]

set_option maxRecDepth 100000 in
set_option maxHeartbeats 2000000 in
theorem wof_yes (v : Value) (l : List Int) (w : World) (hv : RdI .i64 w v l) (hn : l.length ≤ 1000000) (ht : treeL l = true) :
    Calls Tryz.prog 109 #[v] w fun e w' => ∃ v', e = .returned v' ∧ RdI .i64 w' v' (wOf l) ∧ Fresh w.heap.size v' ∧ Keeps w w' [] := by
  have HML := Lib.hid (fun w' (k : Keeps w w' []) => cmaxLen_yes v l w' (hv.keeps k) hn ht)
  have HV := Lib.hid hv
  obtain ⟨A0, n, cp0, rfl, hnl, -⟩ := hv.form
  have HN := Lib.hid hnl
  have hn' : n ≤ 256 := by have := (treeL_iff.1 ht).1; omega
  have HB := Lib.hid (fun x hx => (treeL_iff.1 ht).2.1 x hx)
  have hM0 := mxL_nonneg l
  have hM1 : mxL l ≤ 11 := mxL_le (by omega) (fun x hx => (HB.out x hx).2)
  have HE : Hid (wOf l = (fillL (wgt (mxL l)) l n).take (lastU (l.take n))) := by
    show _ = _
    rw [wOf, fillL_all _ (by omega), List.take_of_length_le (show l.length ≤ n by omega)]
  have HFL : Hid (∀ k, k ≤ n → (fillL (wgt (mxL l)) l k).length = n) := fun k hk => by rw [fillL_len _ (by have := HN.out; omega), HN.out]
  have hlast : lastU (l.take n) ≤ n := by have := lastU_le (l.take n); simp at this; omega
  have HST : Hid (∀ k x, l[k]? = some x → 0 < x → (fillL (wgt (mxL l)) l k).set k (mxL l + 1 - x) = fillL (wgt (mxL l)) l (k + 1)) := fun k x hx h0 => by
    have := fillL_set (f := wgt (mxL l)) hx
    rw [← this, wgt, if_pos h0]
  have HSN : Hid (∀ k x, l[k]? = some x → ¬ 0 < x → fillL (wgt (mxL l)) l (k + 1) = fillL (wgt (mxL l)) l k) := fun k x hx h0 => fillL_same hx (by rw [wgt, if_neg h0])
  have HZ : Hid (fillL (wgt (mxL l)) l 0 = List.replicate n 0) := by show _ = _; rw [fillL_zero, HN.out]
  generalize wgt (mxL l) = F at *
  obtain ⟨M, hM⟩ : ∃ M, M = mxL l := ⟨_, rfl⟩
  rw [← hM] at hM0 hM1 HST HML
  have hmk : ∀ w, (Instr.makeSlice 25 (.int .i64 (n : Int)) (.int .i64 (n : Int))).run Tryz.prog w = .ok (.slice (some ⟨w.heap.size, 0, none⟩) n n) (w.alloc (.cells (ints (List.replicate n 0)) 3)) := make_ints n (by omega)
  clear hv hnl hn ht hM
  go_enter Tryz.func109, Tryz.ntmps109
  go_wp2_with fail
  refine (HML.out _ (Keeps.refl w [])).mono ?_
  rintro e w1 ⟨rfl, k1⟩
  go_wp2_with (go_at_call 143; refine (wmust_yes _ _ (Blk.newA rfl)).mono ?_; rintro e w5 ⟨rfl, rfl⟩)
  have b0 := Blk.new (w1.alloc (.cells #[.int .i64 0] 33)) (ints (List.replicate n 0)) 3
  have k0 := ((k1.alloc (.cells #[.int .i64 0] 33)).alloc (.cells (ints (List.replicate n 0)) 3))
  simp only [World.size_alloc] at b0
  rw [← HZ.out] at b0 k0 ⊢
  obtain ⟨G, hG⟩ : ∃ G, G = w1.heap.size + 1 := ⟨_, rfl⟩
  rw [← hG] at b0 ⊢
  have hGw : w.heap.size ≤ G := by have := k1.size; omega
  clear hG HML k1
  generalize (w1.alloc (.cells #[.int .i64 0] 33)).alloc (.cells (ints (fillL F l 0)) 3) = w2 at *
  have HF0 := Lib.hid hmk
  clear hmk
  go_loopw [6, 22] (fun m i wr => ∃ k : Nat, k ≤ n ∧ i = .int .i64 k ∧ m = .int .i64 (lastU (l.take k) : Nat) ∧ Blk wr G (ints (fillL F l k)) 3 ∧ Keeps w wr []) (fun _ i _ => n - (intOf i).toNat)
  case atStart => exact ⟨0, Nat.zero_le _, rfl, rfl, b0, k0⟩
  case round =>
    clear b0 k0
    obtain ⟨k, hk, rfl, rfl, bk, kk⟩ := hrel
    by_cases hlt : k < n
    · obtain ⟨x, hx⟩ : ∃ x, l[k]? = some x := ⟨_, List.getElem?_eq_getElem (by have := HN.out; omega)⟩
      obtain ⟨b, o, rfl, hb, hc⟩ := HV.out.at hx
      have hc' := (kk.cell (p := ⟨b, o + k, none⟩) hb (by simp)).trans hc
      have hcap := HV.out.cap
      have hxb := HB.out x (List.mem_of_getElem? hx)
      have hkn : (k : Int) < (n : Int) := by omega
      have HLU := Lib.hid (lastU_take hx)
      have hlb := HFL.out k (by omega)
      obtain ⟨y, hy⟩ : ∃ y, (fillL F l k)[k]? = some y := ⟨_, List.getElem?_eq_getElem (by omega)⟩
      have hbc := (bk.cell k).trans (ints_get hy)
      have hbf := bk.frozen k
      have hGl := bk.lt
      have hst := Lib.hid (HST.out k x hx)
      have hsn := Lib.hid (HSN.out k x hx)
      have bset : ∀ y : Int, Blk (wr.setCell ⟨G, k, none⟩ (.int .i64 y)) G (ints ((fillL F l k).set k y)) 3 := fun y => by rw [← ints_set]; exact bk.set k (.int .i64 y)
      generalize lastU (l.take k) = U at *
      clear hx hc hy hlb
      by_cases h0 : 0 < x
      · go_wp2_with fail
        go_roundw
        case rel => exact ⟨k + 1, by omega, by go_num, by rw [HLU.out, if_pos h0], by rw [← hst.out h0]; exact bset _, kk.setCell (.inl (by dsimp only; omega)) _⟩
        case measure => simp [intOf]; omega
      · have d0 : decide (0 < x) = false := decide_eq_false h0
        go_wp2_with fail
        go_roundw
        case rel => exact ⟨k + 1, by omega, by go_num, by rw [HLU.out, if_neg h0], by rw [hsn.out (by omega)]; exact bk, kk⟩
        case measure => simp [intOf]; omega
    · obtain rfl : k = n := by omega
      have HR := Lib.hid (ints_reads bk (m := lastU (l.take k)) (by rw [HFL.out k (by omega)]; exact hlast))
      rw [← HE.out] at HR
      clear bk
      generalize lastU (l.take k) = U at *
      go_wp2_with fail
      go_ret
      exact ⟨_, rfl, HR.out, (fun ad m c he => by cases he; exact hGw), kk⟩

set_option maxRecDepth 100000 in
theorem wof_no (v : Value) (l : List Int) (w : World) (hv : RdI .i64 w v l) (hn : l.length ≤ 1000000) (ht : treeL l = false) :
    Calls Tryz.prog 109 #[v] w fun e w' => e = .panicked [raisedBy 12 false] ∧ Keeps w w' [] := by
  have HML := Lib.hid (fun w' (k : Keeps w w' []) => cmaxLen_no v l w' (hv.keeps k) hn ht)
  obtain ⟨A0, n, cp0, rfl, -, -⟩ := hv.form
  clear hv hn ht
  go_enter Tryz.func109, Tryz.ntmps109
  go_wp2_with fail
  refine (HML.out _ (Keeps.refl w [])).mono ?_
  rintro e w1 ⟨rfl, k1⟩
  go_wp2_with (go_at_call 143; refine (wmust_no 12 (by decide) _ _ (Blk.newA rfl)).mono ?_; rintro e w5 ⟨rfl, rfl⟩)
  exact ⟨rfl, rfl, k1.alloc _⟩

/-- A call returns a list and an error, and leaves the memory that was there. -/
def LsEnd (w : World) (l : List Int) (n : Int) (e : Ending) (w' : World) : Prop := ∃ v, e = .returned (.tuple #[v, .int .i64 n]) ∧ RdI .i64 w' v l ∧ Fresh w.heap.size v ∧ Keeps w w' []

end Go.Proofs.YtcmagccfagijlaaGreat
