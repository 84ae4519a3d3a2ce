/-
  Walks over package canon: the deferred function, MaxLength.
-/
import Derived.Test.YtcmagccfagijlaaGreatQ1
import Derived.Defers
import Derived.Recover
namespace Go.Proofs.YtcmagccfagijlaaGreat
set_option linter.unusedVariables false
set_option linter.unusedSimpArgs false
set_option linter.unusedSectionVars false
open Go.RowKit

def raisedBy (n : Int) (b : Bool) : PanicEntry := { v := .iface 33 (.int .i64 n), recovered := b }

theorem index1_any (bf : Nat) (b : Bool) (w : World) (h : Blk w bf #[.bool b] 4) :
    Calls Tryz.prog 182 #[.slice (some ⟨bf, 0, none⟩) 1 1, .bool false] w fun e w' => e = .returned (.int .i64 (if b then -1 else 0)) ∧ w = w' := by
  obtain ⟨c0, -⟩ := h.one
  cases b with
  | false =>
    go_enter Tryz.func182, Tryz.ntmps182
    go_wp2_with fail
    refine wp_loop_rounds 1 ?_
    rw [rounds_succ]
    go_wp2_with fail
    go_ret
    exact ⟨rfl, rfl⟩
  | true =>
    go_enter Tryz.func182, Tryz.ntmps182
    go_wp2_with fail
    refine wp_loop_rounds 2 ?_
    rw [rounds_succ]
    go_wp2_with fail
    rw [rounds_succ]
    go_wp2_with fail
    go_ret
    exact ⟨rfl, rfl⟩
/-- Does a slice of conditions hold false? -/
def ConOk (vf : Value) (ok : Bool) (w : World) : Prop := ∀ w', Keeps w w' [] → Calls Tryz.prog 149 #[vf, .bool false] w' fun e w'' => e = .returned (.bool (!ok)) ∧ w' = w''
theorem contains1_any (bf : Nat) (b : Bool) (w : World) (h : Blk w bf #[.bool b] 4) : ConOk (.slice (some ⟨bf, 0, none⟩) 1 1) b w := fun w' k => by
  have G := Lib.hid (index1_any bf b w' (h.keeps k (by simp)))
  clear h k
  cases b
  all_goals
    simp only [Bool.false_eq_true, if_false, if_true] at G
    go_enter Tryz.func149, Tryz.ntmps149
    go_wp2_with (go_at_call 182; refine G.out.mono ?_; rintro e w5 ⟨rfl, rfl⟩)
    go_ret
    exact ⟨rfl, rfl⟩
theorem cmust_yes (n : Int) (bf : Nat) (w : World) (h : Blk w bf #[.bool true] 4) : Calls Tryz.prog 114 #[.int .i64 n, .slice (some ⟨bf, 0, none⟩) 1 1] w fun e w' => e = .returned (.tuple #[]) ∧ w = w' := by
  have G := Lib.hid (contains1_any bf true w h w (Keeps.refl w []))
  clear h
  go_enter Tryz.func114, Tryz.ntmps114
  go_wp2_with (go_at_call 149; refine G.out.mono ?_; rintro e w5 ⟨rfl, rfl⟩)
  go_end0
  exact ⟨rfl, rfl⟩
theorem cmust_no (n : Int) (bf : Nat) (w : World) (h : Blk w bf #[.bool false] 4) : Calls Tryz.prog 114 #[.int .i64 n, .slice (some ⟨bf, 0, none⟩) 1 1] w fun e w' => e = .panicked [raisedBy n false] ∧ w = w' := by
  have G := Lib.hid (contains1_any bf false w h w (Keeps.refl w []))
  clear h
  go_enter Tryz.func114, Tryz.ntmps114
  go_wp2_with (go_at_call 149; refine G.out.mono ?_; rintro e w5 ⟨rfl, rfl⟩)
  exact ⟨rfl, rfl, rfl⟩
theorem RdI.cut {k : IntKind} {w : World} {A : Option Addr} {n cp : Nat} {l : List Int} (h : RdI k w (.slice A n cp) l) : RdI k w (.slice A n n) l := by
  obtain ⟨⟨a, n', c, he, hn, h1, h2⟩⟩ := h
  injection he with e1 e2 e3
  subst e1 e2 e3
  exact ⟨_, _, _, rfl, hn, (fun h => ⟨(h1 h).1, (h1 h).1⟩), fun h => ⟨Nat.le_refl _, (h2 h).2⟩⟩
theorem Blk.newA {w : World} {cs : Array Value} {T : TypeId} {b : Nat} (h : w.heap.size = b) : Blk (w.alloc (.cells cs T)) b cs T := h ▸ Blk.new w cs T

set_option maxRecDepth 100000 in
set_option maxHeartbeats 2000000 in
theorem cof_yes (A0 : Option Addr) (n cp0 : Nat) (l : List Int) (w : World) (hv : RdI .i64 w (.slice A0 n cp0) l) (hn : l.length ≤ 1000000) (ht : treeL l = true) :
    Calls Tryz.prog 72 #[.slice A0 n cp0] w fun e w' => e = .returned (.agg #[.slice A0 n n]) ∧ Keeps w w' [] := by
  have HR := Lib.hid (fun w' (k : Keeps w w' []) => ht ▸ c_right _ l w' (hv.keeps k) hn)
  have hcap := hv.cap
  obtain ⟨b, o, rfl, -, -⟩ := hv.addr (by
    have := (treeL_iff.1 ht).2.2.1
    have := usedL_len l
    have := hv.len
    omega)
  clear hv hn ht
  go_enter Tryz.func72, Tryz.ntmps72
  go_wp2_with fail
  refine (HR.out _ ((Keeps.refl w []).alloc _)).mono ?_
  rintro e w1 ⟨rfl, rfl⟩
  go_wp2_with (go_at_call 114; refine (cmust_yes _ _ _ (Blk.newA (by simp))).mono ?_; rintro e w5 ⟨rfl, rfl⟩)
  refine bodyPost_ret (v := .agg #[.slice (some ⟨b, o, none⟩) n n]) (by simp only [results, Tryz.results72]; go_simp) rfl ⟨rfl, ?_⟩
  exact ((Keeps.refl w []).alloc _).alloc _

set_option maxRecDepth 100000 in
theorem cof_no (v : Value) (l : List Int) (w : World) (hv : RdI .i64 w v l) (hn : l.length ≤ 1000000) (ht : treeL l = false) :
    Calls Tryz.prog 72 #[v] w fun e w' => e = .panicked [raisedBy 12 false] ∧ Keeps w w' [] := by
  have HR := Lib.hid (fun w' (k : Keeps w w' []) => ht ▸ c_right _ l w' (hv.keeps k) hn)
  obtain ⟨A0, n, cp0, rfl, -, -⟩ := hv.form
  clear hv hn ht
  go_enter Tryz.func72, Tryz.ntmps72
  go_wp2_with fail
  refine (HR.out _ ((Keeps.refl w []).alloc _)).mono ?_
  rintro e w1 ⟨rfl, rfl⟩
  go_wp2_with (go_at_call 114; refine (cmust_no _ _ _ (Blk.newA (by simp))).mono ?_; rintro e w5 ⟨rfl, rfl⟩)
  exact ⟨rfl, rfl, ((Keeps.refl w []).alloc _).alloc _⟩

/-- The deferred function of a call that returns: it does nothing. -/
theorem ccaught_idle (p : Addr) (f : Value) (w : World) :
    CallsD Tryz.prog 70 #[.pointer (some p), f] .returning w fun e u' w' => e = .returned (.tuple #[]) ∧ u' = .returning ∧ w' = w := by
  refine callsD_of_wpS Tryz.func70 rfl fun c₀ cs hu => ?_
  simp only [Tryz.ntmps70, List.size_toArray, List.length_cons, List.length_nil, Nat.reduceAdd, Nat.reduceSub, Array.replicate_succ, Array.replicate_zero, List.push_toArray, List.append_toArray, List.nil_append, List.cons_append]
  apply wpS_seq
  apply wpS_region
  simp [wpOpsS, go_sem, recoverD, hu, Exit.thenS]
  refine wpS_of_wp ?_
  have HU := Lib.hid hu
  clear hu
  go_wp2
  refine ⟨rfl, .returning, ?_, .tuple #[], by simp [results, Tryz.results70], rfl, rfl, rfl⟩
  have hu := HU.out
  cases c₀
  simp_all

set_option maxHeartbeats 600000 in
/-- The deferred function where an error was raised: the result is cleared, the error is laid. -/
theorem ccaught_max (pe po : Nat) (n : Int) (x z : Value) (te tq : TypeId) (older : List PanicEntry) (w : World) (he : Blk w pe #[z] te) (ho : Blk w po #[x] tq) (h1 : pe ≠ po) :
    CallsD Tryz.prog 70 #[.pointer (some ⟨pe, 0, none⟩), .func (.func 173) #[] #[.pointer (some ⟨po, 0, none⟩)]] (.panicking (raisedBy n false :: older)) w fun e u' w' =>
      e = .returned (.tuple #[]) ∧ u' = .panicking (raisedBy n true :: older) ∧ w' = (w.setCell ⟨po, 0, none⟩ (.int .i64 0)).setCell ⟨pe, 0, none⟩ (.int .i64 n) := by
  obtain ⟨c0, f0⟩ := he.one
  obtain ⟨c1, f1⟩ := ho.one
  have hta : ∀ w : World, (Instr.typeAssert (.iface 33 (.int .i64 n)) 20 33 true).run Tryz.prog w = .ok (.tuple #[.int .i64 n, .bool true]) w := fun _ => by kernel_rfl
  have h1' := h1.symm
  refine callsD_of_wpS Tryz.func70 rfl fun c₀ cs hu => ?_
  simp only [Tryz.ntmps70, List.size_toArray, List.length_cons, List.length_nil, Nat.reduceAdd, Nat.reduceSub, Array.replicate_succ, Array.replicate_zero, List.push_toArray, List.append_toArray, List.nil_append, List.cons_append]
  apply wpS_seq
  apply wpS_region
  simp [wpOpsS, go_sem, recoverD, hu, Exit.thenS, raisedBy]
  refine wpS_of_wp ?_
  have HU := Lib.hid hu
  clear hu
  go_wp2
  go_end0
  go_wp2
  refine ⟨rfl, .panicking (raisedBy n true :: older), ?_, .tuple #[], by simp [results, Tryz.results70], rfl, rfl, rfl⟩
  simp [raisedBy]

theorem mxL_take {l : List Int} {k : Nat} {x : Int} (h : l[k]? = some x) : mxL (l.take (k + 1)) = max (mxL (l.take k)) x := by
  rw [take_next h, mxL_snoc]

set_option maxHeartbeats 2000000 in
theorem cmax_any (v : Value) (l : List Int) (w : World) (hv : RdI .i64 w v l) (hn : l.length ≤ 1000000) (h0 : 0 < l.length) (hp : ∀ x ∈ l, 0 ≤ x) :
    Calls Tryz.prog 174 #[v] w fun e w' => e = .returned (.int .i64 (mxL l)) ∧ w = w' := by
  obtain ⟨A0, n, cp0, rfl, hnl, -⟩ := hv.form
  have HV := Lib.hid hv
  have HN := Lib.hid hnl
  have HP := Lib.hid hp
  have hn' : n ≤ 1000000 := by omega
  have hn0 : 0 < n := by omega
  clear hv hnl hn h0 hp
  obtain ⟨x0, hx0⟩ : ∃ x, l[0]? = some x := ⟨_, List.getElem?_eq_getElem (by have := HN.out; omega)⟩
  obtain ⟨b, o, rfl, hb, hc⟩ := HV.out.at hx0
  rw [Nat.add_zero] at hc
  have hcap := HV.out.cap
  have hnI : decide ((n : Int) < 1) = false := decide_eq_false (by omega)
  have H1 : Hid (mxL (l.take 1) = x0) := by
    show _ = _
    have := mxL_take hx0
    simp only [Nat.zero_add, List.take_zero] at this
    have h2 := HP.out x0 (List.mem_of_getElem? hx0)
    rw [this, show mxL [] = 0 from rfl]
    omega
  clear hx0
  go_enter Tryz.func174, Tryz.ntmps174
  go_wp2_with fail
  go_loop [3, 4] (fun m i => ∃ k : Nat, 1 ≤ k ∧ k ≤ n ∧ i = .int .i64 k ∧ m = .int .i64 (mxL (l.take k))) (fun _ i => n - (intOf i).toNat)
  case atStart => exact ⟨1, Nat.le_refl _, by omega, rfl, by rw [H1.out]⟩
  case round =>
    obtain ⟨k, hk1, hk, rfl, rfl⟩ := hrel
    clear hc
    by_cases hlt : k < n
    · obtain ⟨x, hx⟩ : ∃ x, l[k]? = some x := ⟨_, List.getElem?_eq_getElem (by have := HN.out; omega)⟩
      obtain ⟨b', o', hbo, hb, hc⟩ := HV.out.at hx
      obtain ⟨rfl, rfl⟩ : b = b' ∧ o = o' := by simpa using hbo
      clear hbo
      have hkn : (k : Int) < (n : Int) := by omega
      have HM := Lib.hid (mxL_take hx)
      obtain ⟨M, hM⟩ : ∃ M, M = mxL (l.take k) := ⟨_, rfl⟩
      rw [← hM] at HM ⊢
      clear hM hx
      go_wp2_with fail
      go_round
      case rel => exact ⟨k + 1, by omega, by omega, by go_num, by rw [HM.out]; congr 1; split <;> omega⟩
      case measure => simp [intOf]; omega
    · obtain rfl : k = n := by omega
      have e : l.take k = l := List.take_of_length_le (by have := HN.out; omega)
      rw [e]
      go_wp2_with fail
      go_ret
      exact ⟨rfl, rfl⟩

/-- A call returns a number and an error, and leaves the memory that was there. -/
def NumEnd (w : World) (x n : Int) (e : Ending) (w' : World) : Prop := e = .returned (.tuple #[.int .i64 x, .int .i64 n]) ∧ Keeps w w' []

set_option maxRecDepth 100000 in
set_option maxHeartbeats 2000000 in
theorem cmaxLen_no (v : Value) (l : List Int) (w : World) (hv : RdI .i64 w v l) (hn : l.length ≤ 1000000) (ht : treeL l = false) : Calls Tryz.prog 142 #[v] w (NumEnd w 0 12) := by
  have hmf : ∀ (fn : Fn) (first cap : Array Value) (w : World), (Instr.makeFunc fn first cap).run Tryz.prog w = .ok (.func fn first cap) w := fun _ _ _ _ => rfl
  have HO := Lib.hid (fun w' (k : Keeps w w' []) => cof_no v l w' (hv.keeps k) hn ht)
  obtain ⟨A0, n, cp0, rfl, hnl, -⟩ := hv.form
  clear hv hnl ht
  go_enter_defers Tryz.func142, Tryz.ntmps142
  go_wp2_with fail
  have k0 : Keeps w ((w.alloc (.cells #[.int .i64 0] 3)).alloc (.cells #[.int .i64 0] 33)) [] := ((Keeps.refl w []).alloc _).alloc _
  have bo := (Blk.new w #[.int .i64 0] 3).alloc (.cells #[.int .i64 0] 33)
  have be := Blk.new (w.alloc (.cells #[.int .i64 0] 3)) #[.int .i64 0] 33
  simp only [World.size_alloc] at be
  refine (HO.out _ k0).mono ?_
  rintro e w1 ⟨rfl, k1⟩
  replace bo := bo.keeps k1 (by simp)
  replace be := be.keeps k1 (by simp)
  replace k0 := k0.then k1
  clear k1
  obtain ⟨e0, e1⟩ := be.one
  obtain ⟨o0, o1⟩ := bo.one
  go_wp2_with fail
  refine leaves_cons (f := 70) (args := #[.pointer (some ⟨w.heap.size + 1, 0, none⟩), .func (.func 173) #[] #[.pointer (some ⟨w.heap.size, 0, none⟩)]]) (by simp) (by simp [go_sem]) ?_
  refine (ccaught_max _ _ 12 _ _ _ _ [] _ be bo (by omega)).mono ?_
  rintro e u' w'' ⟨rfl, rfl, rfl⟩
  refine ⟨.tuple #[.int .i64 0, .int .i64 12], by simp only [results, Tryz.results142]; go_simp, ?_⟩
  refine ⟨rfl, ?_⟩
  exact Keeps.setCell' (.inl (by dsimp only; omega)) (Keeps.setCell' (.inl (by dsimp only; omega)) k0)

set_option maxRecDepth 100000 in
set_option maxHeartbeats 2000000 in
theorem cmaxLen_yes (v : Value) (l : List Int) (w : World) (hv : RdI .i64 w v l) (hn : l.length ≤ 1000000) (ht : treeL l = true) : Calls Tryz.prog 142 #[v] w (NumEnd w (mxL l) 0) := by
  have hmf : ∀ (fn : Fn) (first cap : Array Value) (w : World), (Instr.makeFunc fn first cap).run Tryz.prog w = .ok (.func fn first cap) w := fun _ _ _ _ => rfl
  obtain ⟨A0, n, cp0, rfl, hnl, -⟩ := hv.form
  have hff : ∀ (u : Value) (w : World), (Instr.field 100 (.agg #[u]) 0).run Tryz.prog w = .ok u w := fun _ _ => rfl
  have HO := Lib.hid (fun w' (k : Keeps w w' []) => cof_yes A0 n cp0 l w' (hv.keeps k) hn ht)
  have HM := Lib.hid (fun w' (k : Keeps w w' []) => cmax_any (.slice A0 n n) l w' ((hv.cut).keeps k) hn (by
      have := (treeL_iff.1 ht).2.2.1
      have := usedL_len l
      omega) (fun x hx => ((treeL_iff.1 ht).2.1 x hx).1))
  clear hv hnl ht
  go_enter_defers Tryz.func142, Tryz.ntmps142
  go_wp2_with fail
  have k0 : Keeps w ((w.alloc (.cells #[.int .i64 0] 3)).alloc (.cells #[.int .i64 0] 33)) [] := ((Keeps.refl w []).alloc _).alloc _
  have bo := (Blk.new w #[.int .i64 0] 3).alloc (.cells #[.int .i64 0] 33)
  have be := Blk.new (w.alloc (.cells #[.int .i64 0] 3)) #[.int .i64 0] 33
  simp only [World.size_alloc] at be
  refine (HO.out _ k0).mono ?_
  rintro e w1 ⟨rfl, k1⟩
  replace bo := bo.keeps k1 (by simp)
  replace be := be.keeps k1 (by simp)
  replace k0 := k0.then k1
  clear k1
  obtain ⟨e0, e1⟩ := be.one
  obtain ⟨o0, o1⟩ := bo.one
  go_wp2_with fail
  refine (HM.out _ k0).mono ?_
  rintro e w3 ⟨rfl, rfl⟩
  go_wp2_with fail
  refine leaves_cons (f := 70) (args := #[.pointer (some ⟨w.heap.size + 1, 0, none⟩), .func (.func 173) #[] #[.pointer (some ⟨w.heap.size, 0, none⟩)]]) (by simp) (by simp [go_sem]) ?_
  refine (ccaught_idle _ _ _).mono ?_
  rintro e u' w'' ⟨rfl, rfl, rfl⟩
  refine ⟨.tuple #[.int .i64 (mxL l), .int .i64 0], by simp only [results, Tryz.results142]; go_simp, ?_⟩
  refine ⟨rfl, ?_⟩
  exact Keeps.setCell' (.inl (by dsimp only; omega)) (Keeps.setCell' (.inl (by dsimp only; omega)) k0)


end Go.Proofs.YtcmagccfagijlaaGreat
