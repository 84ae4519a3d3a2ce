/-
  The tree of weights is a tree. No program is in sight here.
  The tree that the weights of a tree give is that tree, without zeros at its end. (No walk is done here.)
  Walks over package weights: described at format 1, EncodeCoded, Encode.
  Walks over package weights: Encode. (Printed by mkYf.py.)
  A slice of bytes as a string; slices of slices that a call collects. No program is in sight here.
  The examples of package weights' chapter: works returns true. (Printed by mkVP.py.)
  The laws on the weights of a tree, the tree of weights, the implied weight, format 0: their walks. (Printed by mkVQ.py.)
  The law on descriptions in format 1: its walk. (Printed by mkYg.py.)
  What an argument's reading as data says of the value: arrays and structs of three numbers.
  The law on descriptions of trees in format 1: for every input it returns true and its argument reads as it read before.
-/
import Derived.Test.YtophgpnnjphnmaaGreatQ4
import Derived.Test.YtophgpnnjphnmaaGreatQ38
import Derived.Test.YtophgpnnjphnmaaGreatQ33
import Derived.Test.YtophgpnnjphnmaaGreatQ29
import Derived.Test.YtophgpnnjphnmaaGreatQ2
import Derived.Test.YtophgpnnjphnmaaGreatQ1
import Derived.Laws.BytesArg
import Derived.Test.YtophgpnnjphnmaaGreatQ6
import Derived.Lib.SmallJoins
import Derived.Deep.Slices
import Derived.OpenShut
namespace Go.Proofs.YtophgpnnjphnmaaGreat
section
set_option linter.unusedVariables false
set_option linter.unusedSimpArgs false
open Go.RowKit

theorem tOf_len (l : List Int) : (tOf l).length = l.length + 1 := by simp [tOf, trL]
end

section
set_option linter.unusedVariables false
set_option linter.unusedSimpArgs false
open Go.RowKit
end

section
set_option linter.unusedVariables false
set_option linter.unusedSimpArgs false
set_option linter.unusedSectionVars false
open Go.RowKit

set_option maxRecDepth 100000 in
set_option maxHeartbeats 2000000 in
theorem describedC_yes (v : Value) (l : List Int) (w : World) (hv : RdI .i64 w v l) (ht : okW l = true) : Calls Tryz.prog 43 #[v, .int .i64 1] w (BtEnd w (codedE l) 0) := by
  have hmf : ∀ (fn : Fn) (first cap : Array Value) (w : World), (Instr.makeFunc fn first cap).run Tryz.prog w = .ok (.func fn first cap) w := fun _ _ _ _ => rfl
  obtain ⟨hl0, hl255⟩ := okW_len ht
  have HO := Lib.hid (fun w' (k : Keeps w w' []) => (wtree_any v l w' (hv.keeps k) (by omega)).mono fun e w'' h => (⟨h.2.1 ht, h.1⟩ : (∃ v, e = .returned (.tuple #[v, .int .i64 (vW l)]) ∧ RdI .i64 w'' v (tOf l) ∧ Fresh w'.heap.size v) ∧ Keeps w' w'' []))
  have HH := Lib.hid (fun w' (k : Keeps w w' []) => coded_any v l w' (hv.keeps k) (okW_bound ht) hl0 hl255)
  have hix : ∀ w : World, (Instr.index 80 (.agg #[.func (.func 80) #[] #[], .func (.func 81) #[] #[]]) (.int .i64 1)).run Tryz.prog w = .ok (.func (.func 81) #[] #[]) w := fun w => by simp [Instr.index, go_sem]
  obtain ⟨A0, n, cp0, rfl, -, -⟩ := hv.form
  clear hv ht hl0 hl255
  generalize vW l = V at *
  go_enter_defers Tryz.func43, Tryz.ntmps43
  go_wp2_with fail
  have k0 : Keeps w ((w.alloc (.cells #[.slice none 0 0] 36)).alloc (.cells #[.int .i64 0] 24)) [] := ((Keeps.refl w []).alloc _).alloc _
  have bo := (Blk.new w #[.slice none 0 0] 36).alloc (.cells #[.int .i64 0] 24)
  have be := Blk.new (w.alloc (.cells #[.slice none 0 0] 36)) #[.int .i64 0] 24
  simp only [World.size_alloc] at be
  refine (HO.out _ k0).mono ?_
  rintro e w1 ⟨⟨v1, rfl, r1, f1⟩, k1⟩
  clear r1 f1
  replace bo := bo.keeps k1 (by simp)
  replace be := be.keeps k1 (by simp)
  replace k0 := k0.then k1
  clear k1
  go_wp2_with (go_at_call 60; refine (ways_any _).mono ?_; rintro e w2 ⟨rfl, k2⟩)
  have k2' := k0.then k2
  have hs12' : Hid (w.heap.size + 2 ≤ w2.heap.size) := by have := (be.keeps k2 (by simp)).lt; exact (by omega : w.heap.size + 2 ≤ w2.heap.size)
  replace bo := bo.keeps k2 (by simp)
  replace be := be.keeps k2 (by simp)
  go_wp2_with fail
  refine (HH.out _ k2').mono ?_
  rintro e w3 ⟨v3, rfl, own3, k3⟩
  obtain ⟨a3, c3, rfl⟩ := own_form own3
  replace bo := bo.keeps k3 (by simp)
  replace be := be.keeps k3 (by simp)
  have hs2 := k2'.size
  have lbe := be.lt
  have hs12 : w.heap.size + 2 ≤ w2.heap.size := hs12'.out
  replace k0 := k2'.then k3
  clear k2 k2' k3
  obtain ⟨e0, e1⟩ := be.one
  obtain ⟨o0, o1⟩ := bo.one
  have R1 := Lib.hid (own_reads own3)
  have F1 := Lib.hid (own_freshB own3)
  have hlen : (codedE l).length = (codedE l).length := rfl
  clear own3 hlen
  generalize (codedE l).length = N at *
  go_wp2_with fail
  refine leaves_cons (f := 35) (args := #[.pointer (some ⟨w.heap.size + 1, 0, none⟩), .func (.func 66) #[] #[.pointer (some ⟨w.heap.size, 0, none⟩)]]) (by simp) (by simp [go_sem]) ?_
  refine (wcaught_idle _ _ _).mono ?_
  rintro e u' w'' ⟨rfl, rfl, rfl⟩
  refine ⟨.tuple #[.slice a3 N c3, .int .i64 0], by simp only [results, Tryz.results43]; go_simp, ?_⟩
  refine ⟨_, rfl, R1.out.keepsS (S := [w.heap.size, w.heap.size + 1]) (by repeat (first | exact Keeps.refl _ _ | refine Keeps.setCell' (.inr (by simp)) ?_)) (fun ad m c he _ hm => ?_), F1.out.mono hs2, by repeat (first | exact k0 | refine Keeps.setCell' (.inl (by dsimp only; omega)) ?_)⟩
  have := F1.out ad m c he
  simp at hm
  omega

def codedOut (l : List Int) : List Int := if okW l then codedE l else []

set_option maxRecDepth 100000 in
theorem encoded_any (v : Value) (l : List Int) (w : World) (hv : RdI .i64 w v l) (hn : l.length ≤ 1000000) : Calls Tryz.prog 24 #[v] w (BtEnd w (codedOut l) (treeErr l)) := by
  have hd : Calls Tryz.prog 43 #[v, .int .i64 1] w (BtEnd w (codedOut l) (treeErr l)) := by
    cases ht : okW l with
    | true => simpa [codedOut, treeErr, ht] using describedC_yes v l w hv ht
    | false => simpa [codedOut, treeErr, ht] using described_no v l 1 w hv hn ht
  have HD := Lib.hid hd
  obtain ⟨A0, n, cp0, rfl, -, -⟩ := hv.form
  clear hv hd
  generalize treeErr l = E at *
  go_enter Tryz.func24, Tryz.ntmps24
  go_wp2_with (refine HD.out.mono ?_; rintro e w1 ⟨v1, rfl, r1, f1, k1⟩)
  exact bodyPost_ret (v := .tuple #[v1, .int .i64 E]) (by simp [results, Tryz.results24]) rfl ⟨v1, rfl, r1, f1, k1⟩
end

section
set_option linter.unusedVariables false
set_option linter.unusedSimpArgs false
set_option linter.unusedSectionVars false
open Go.RowKit
end

section
set_option linter.unusedVariables false
set_option linter.unusedSimpArgs false
open Go.RowKit

theorem str_of {P : Program} {w : World} {v : Value} {l : List Int} (hv : RdI .u8 w v l) {src e dst : TypeId} (hs : P.underlying src = some (.slice e)) (he : P.underlying e = some (.int .u8)) (hd : P.underlying dst = some .string) :
    (convert src dst v).run P w = .ok (.string (strOfNums l)) w := by
  obtain ⟨a, n, cp, rfl, hn, h0, hc⟩ := hv.form
  by_cases hz : n = 0
  · subst hz
    have : l = [] := List.eq_nil_of_length_eq_zero hn.symm
    subst this
    cases a with
    | none => exact run_convert_bytes_nil w src e hs he 0 cp dst hd
    | some a =>
      rw [run_convert_bytes_string w src dst e _ 0 cp hs he hd, run_bytesToString w a 0 cp [] (by simp [loadCells, loadCellsFrom])]
      rfl
  · obtain ⟨-, b, o, rfl, hb, hcell⟩ := hc (by omega)
    refine run_convert_bytes_arg w src e hs he b o n cp l hn.symm (fun i hi => ?_) dst hd
    rw [hcell i _ (List.getElem?_eq_getElem (by omega))]
    simp [List.getD, List.getElem?_eq_getElem (show i < l.length by omega)]

/-- The values vs read as the lists ls. -/
def RdV (k : IntKind) (w : World) (vs : List Value) (ls : List (List Int)) : Prop := vs.length = ls.length ∧ ∀ (j : Nat) (l : List Int), ls[j]? = some l → ∃ v, vs[j]? = some v ∧ RdI k w v l
theorem RdV.nil {k : IntKind} {w : World} : RdV k w [] [] := ⟨rfl, by simp⟩
theorem RdV.keeps {k : IntKind} {w w' : World} {vs : List Value} {ls : List (List Int)} (h : RdV k w vs ls) (kk : Keeps w w' []) : RdV k w' vs ls :=
  ⟨h.1, fun j l hl => by obtain ⟨v, h1, h2⟩ := h.2 j l hl; exact ⟨v, h1, h2.keeps kk⟩⟩
end

section
set_option linter.unusedVariables false
set_option linter.unusedSimpArgs false
set_option linter.unusedSectionVars false
open Go.RowKit

theorem ex_a (v : Value) (w : World) (hv : RdI .i64 w v [2, 1, 0, 2]) : Calls Tryz.prog 13 #[v] w (LsEnd w [1, 2, 0] 0) := by
  have h := fromTree_any v _ w hv (by decide)
  have e1 : fromOut [2, 1, 0, 2] = [1, 2, 0] := by kernel_rfl
  have e2 : fromErr [2, 1, 0, 2] = 0 := by kernel_rfl
  rw [e1, e2] at h
  exact h
theorem ex_b (v : Value) (w : World) (hv : RdI .i64 w v [1, 2, 0]) : Calls Tryz.prog 17 #[v] w (LsEnd w [2, 1, 0, 2] 0) := by
  have h := toTree_any v _ w hv (by decide)
  have e1 : treeOut [1, 2, 0] = [2, 1, 0, 2] := by kernel_rfl
  have e2 : treeErr [1, 2, 0] = 0 := by kernel_rfl
  rw [e1, e2] at h
  exact h
theorem ex_x (v : Value) (w : World) (hv : RdI .i64 w v [1, 1]) : Calls Tryz.prog 13 #[v] w (LsEnd w [1] 0) := by
  have h := fromTree_any v _ w hv (by decide)
  have e1 : fromOut [1, 1] = [1] := by kernel_rfl
  have e2 : fromErr [1, 1] = 0 := by kernel_rfl
  rw [e1, e2] at h
  exact h
theorem ex_y (v : Value) (w : World) (hv : RdI .i64 w v [1]) : Calls Tryz.prog 17 #[v] w (LsEnd w [1, 1] 0) := by
  have h := toTree_any v _ w hv (by decide)
  have e1 : treeOut [1] = [1, 1] := by kernel_rfl
  have e2 : treeErr [1] = 0 := by kernel_rfl
  rw [e1, e2] at h
  exact h
theorem ex_k (v : Value) (w : World) (hv : RdI .i64 w v [2]) : Calls Tryz.prog 17 #[v] w (LsEnd w [] 12) := by
  have h := toTree_any v _ w hv (by decide)
  have e1 : treeOut [2] = [] := by kernel_rfl
  have e2 : treeErr [2] = 12 := by kernel_rfl
  rw [e1, e2] at h
  exact h
theorem ex_l (v : Value) (w : World) (hv : RdI .i64 w v [0, 0]) : Calls Tryz.prog 17 #[v] w (LsEnd w [] 12) := by
  have h := toTree_any v _ w hv (by decide)
  have e1 : treeOut [0, 0] = [] := by kernel_rfl
  have e2 : treeErr [0, 0] = 12 := by kernel_rfl
  rw [e1, e2] at h
  exact h
theorem ex_m (v : Value) (w : World) (hv : RdI .i64 w v [3, 1]) : Calls Tryz.prog 17 #[v] w (LsEnd w [] 12) := by
  have h := toTree_any v _ w hv (by decide)
  have e1 : treeOut [3, 1] = [] := by kernel_rfl
  have e2 : treeErr [3, 1] = 12 := by kernel_rfl
  rw [e1, e2] at h
  exact h
theorem ex_c (v : Value) (w : World) (hv : RdI .i64 w v [1, 2, 0]) : Calls Tryz.prog 20 #[v] w (NumEnd w 1 0) := by
  have h := implied_any v _ w hv (by decide)
  have e1 : lastOut [1, 2, 0] = 1 := by kernel_rfl
  have e2 : treeErr [1, 2, 0] = 0 := by kernel_rfl
  rw [e1, e2] at h
  exact h
theorem ex_d (v : Value) (w : World) (hv : RdI .i64 w v [1, 2, 0]) : Calls Tryz.prog 22 #[v] w (BtEnd w [3, 0, 33, 0] 0) := by
  have h := packed_any v _ w hv (by decide)
  have e1 : halfOut [1, 2, 0] = [3, 0, 33, 0] := by kernel_rfl
  have e2 : treeErr [1, 2, 0] = 0 := by kernel_rfl
  rw [e1, e2] at h
  exact h
theorem ex_z (v : Value) (w : World) (hv : RdI .u8 w v [3, 0, 33, 0]) : Calls Tryz.prog 33 #[v] w (GetEnd w [2, 1, 0, 2] 0 0) := by
  have h := gets_of v [3, 0, 33, 0] [2, 1, 0, 2] 0 4 w hv (by decide) (by decide) (fun W p v' hc => by
    have h := decode_yes p 0 v' [3, 0, 33, 0] W hc (by kernel_rfl) (by decide) (by kernel_rfl) (by kernel_rfl) (by kernel_rfl) (by kernel_rfl)
    rw [show tOf (halvX [3, 0, 33, 0] (byteK [3, 0, 33, 0] (numK [3, 0, 33, 0] 0 255)) (numX [3, 0, 33, 0] 0 255)) = [2, 1, 0, 2] from by kernel_rfl] at h
    rw [show bytesK [3, 0, 33, 0] (byteK [3, 0, 33, 0] (numK [3, 0, 33, 0] 0 255)) (((numX [3, 0, 33, 0] 0 255 + 1) / 2 : Nat) : Int) = 4 from by kernel_rfl] at h
    exact h)
  exact h
theorem ex_o (v : Value) (w : World) (hv : RdI .u8 w v [3, 0, 33, 16]) : Calls Tryz.prog 33 #[v] w (GetEnd w [] 0 12) := by
  have h := gets_of v [3, 0, 33, 16] [] 12 4 w hv (by decide) (by decide) (fun W p v' hc => by
    have h := decode_halv p 0 v' [3, 0, 33, 16] W hc (by kernel_rfl) (by decide) (by kernel_rfl) (by kernel_rfl) (by decide)
    rw [show halvE [3, 0, 33, 16] (byteK [3, 0, 33, 16] (numK [3, 0, 33, 16] 0 255)) (numX [3, 0, 33, 16] 0 255) = 12 from by kernel_rfl] at h
    rw [show bytesK [3, 0, 33, 16] (byteK [3, 0, 33, 16] (numK [3, 0, 33, 16] 0 255)) (((numX [3, 0, 33, 16] 0 255 + 1) / 2 : Nat) : Int) = 4 from by kernel_rfl] at h
    exact h)
  exact h
theorem ex_p (v : Value) (w : World) (hv : RdI .u8 w v [0]) : Calls Tryz.prog 33 #[v] w (GetEnd w [] 0 12) := by
  have h := gets_of v [0] [] 12 1 w hv (by decide) (by decide) (fun W p v' hc => by
    have h := decode_zero p 0 v' [0] W hc (by kernel_rfl) (by kernel_rfl)
    rw [show numK [0] 0 255 = 1 from by kernel_rfl] at h
    exact h)
  exact h
theorem ex_q (v : Value) (w : World) (hv : RdI .u8 w v [1, 2]) : Calls Tryz.prog 33 #[v] w (GetEnd w [] 0 12) := by
  have h := gets_of v [1, 2] [] 12 2 w hv (by decide) (by decide) (fun W p v' hc => by
    have h := decode_way p 0 v' [1, 2] W hc (by kernel_rfl) (by decide) (by kernel_rfl) (by decide)
    rw [show byteK [1, 2] (numK [1, 2] 0 255) = 2 from by kernel_rfl] at h
    exact h)
  exact h
theorem ex_r (v : Value) (w : World) (hv : RdI .u8 w v [3, 0, 33]) : Calls Tryz.prog 33 #[v] w (GetEnd w [] 1 3) := by
  have h := gets_of v [3, 0, 33] [] 3 2 w hv (by decide) (by decide) (fun W p v' hc => by
    have h := decode_halv p 0 v' [3, 0, 33] W hc (by kernel_rfl) (by decide) (by kernel_rfl) (by kernel_rfl) (by decide)
    rw [show halvE [3, 0, 33] (byteK [3, 0, 33] (numK [3, 0, 33] 0 255)) (numX [3, 0, 33] 0 255) = 3 from by kernel_rfl] at h
    rw [show bytesK [3, 0, 33] (byteK [3, 0, 33] (numK [3, 0, 33] 0 255)) (((numX [3, 0, 33] 0 255 + 1) / 2 : Nat) : Int) = 2 from by kernel_rfl] at h
    exact h)
  exact h
theorem ex_s (v : Value) (w : World) (hv : RdI .u8 w v [1]) : Calls Tryz.prog 33 #[v] w (GetEnd w [] 0 3) := by
  have h := gets_of v [1] [] 3 1 w hv (by decide) (by decide) (fun W p v' hc => by
    have h := decode_byte p 0 v' [1] W hc (by kernel_rfl) (by decide) (by decide)
    rw [show byteE [1] (numK [1] 0 255) = 3 from by kernel_rfl] at h
    rw [show byteK [1] (numK [1] 0 255) = 1 from by kernel_rfl] at h
    exact h)
  exact h

theorem ex_str : strOfNums [3, 0, 33, 0] = { data := #[3, 0, 33, 0] } := by kernel_rfl

set_option maxRecDepth 100000 in
set_option maxHeartbeats 4000000 in
theorem works_true (w : World) : Calls Tryz.prog 12 #[] w fun e w' => e = .returned (.bool true) ∧ Keeps w w' [] := by
  go_enter Tryz.func12, Tryz.ntmps12
  have kw := Keeps.refl w []
  go_wp2_with fail
  have rt := blk_four (Blk.newAt (w := w) (cs := #[.int .i64 2, .int .i64 1, .int .i64 0, .int .i64 2]) (T := 3) rfl)
  replace kw := kw.alloc (.cells #[.int .i64 2, .int .i64 1, .int .i64 0, .int .i64 2] 3)
  generalize w.heap.size = bt at *
  generalize w.alloc (.cells #[.int .i64 2, .int .i64 1, .int .i64 0, .int .i64 2] 3) = wt at *
  go_wp2_with fail
  refine (ex_a _ _ rt).mono ?_
  rintro e w1 ⟨va, rfl, ra, -, kk⟩
  replace kw := kw.then kk
  replace rt := rt.keeps kk
  clear kk
  go_wp2_with fail
  refine (ex_b _ _ (blk_three (Blk.newAt rfl))).mono ?_
  rintro e w2 ⟨vb, rfl, rb, -, kk⟩
  replace kw := (kw.alloc _).then kk
  replace rt := (rt.keeps ((Keeps.refl _ []).alloc _)).keeps kk
  replace ra := (ra.keeps ((Keeps.refl _ []).alloc _)).keeps kk
  clear kk
  go_wp2_with fail
  refine (ex_c _ _ (blk_three (Blk.newAt rfl))).mono ?_
  rintro e w3 ⟨rfl, kk⟩
  replace kw := (kw.alloc _).then kk
  replace rt := (rt.keeps ((Keeps.refl _ []).alloc _)).keeps kk
  replace ra := (ra.keeps ((Keeps.refl _ []).alloc _)).keeps kk
  replace rb := (rb.keeps ((Keeps.refl _ []).alloc _)).keeps kk
  clear kk
  go_wp2_with fail
  refine (ex_d _ _ (blk_three (Blk.newAt rfl))).mono ?_
  rintro e w4 ⟨vd, rfl, rd, -, kk⟩
  replace kw := (kw.alloc _).then kk
  replace rt := (rt.keeps ((Keeps.refl _ []).alloc _)).keeps kk
  replace ra := (ra.keeps ((Keeps.refl _ []).alloc _)).keeps kk
  replace rb := (rb.keeps ((Keeps.refl _ []).alloc _)).keeps kk
  clear kk
  go_wp2_with fail
  refine (ex_x _ _ (blk_two (Blk.newAt rfl))).mono ?_
  rintro e w5 ⟨vx, rfl, rx, -, kk⟩
  replace kw := (kw.alloc _).then kk
  replace rt := (rt.keeps ((Keeps.refl _ []).alloc _)).keeps kk
  replace ra := (ra.keeps ((Keeps.refl _ []).alloc _)).keeps kk
  replace rb := (rb.keeps ((Keeps.refl _ []).alloc _)).keeps kk
  replace rd := (rd.keeps ((Keeps.refl _ []).alloc _)).keeps kk
  clear kk
  go_wp2_with fail
  refine (ex_y _ _ (blk_one (Blk.newAt rfl))).mono ?_
  rintro e w6 ⟨vy, rfl, ry, -, kk⟩
  replace kw := (kw.alloc _).then kk
  replace rt := (rt.keeps ((Keeps.refl _ []).alloc _)).keeps kk
  replace ra := (ra.keeps ((Keeps.refl _ []).alloc _)).keeps kk
  replace rb := (rb.keeps ((Keeps.refl _ []).alloc _)).keeps kk
  replace rd := (rd.keeps ((Keeps.refl _ []).alloc _)).keeps kk
  replace rx := (rx.keeps ((Keeps.refl _ []).alloc _)).keeps kk
  clear kk
  have kd : ∀ {W : World} (m : Nat), Keeps W (W.drewN m) [] := fun m => (Keeps.refl _ []).drewN m
  go_wp2_with (first | (go_at_call 16; refine (no_any _ _).mono ?_; rintro e w' ⟨rfl, rfl⟩))
  refine (same_yes _ _ [1, 2, 0] _ (ra.keeps ((Keeps.refl _ []).alloc _)) (blk_three (Blk.newAt rfl)) (by decide)).mono ?_
  rintro e w7 ⟨rfl, m7, rfl⟩
  replace kw := (kw.alloc (.cells #[.int .i64 1, .int .i64 2, .int .i64 0] 3)).drewN m7
  replace rt := (rt.keeps ((Keeps.refl _ []).alloc (.cells #[.int .i64 1, .int .i64 2, .int .i64 0] 3))).keeps (kd m7)
  replace rb := (rb.keeps ((Keeps.refl _ []).alloc (.cells #[.int .i64 1, .int .i64 2, .int .i64 0] 3))).keeps (kd m7)
  replace rd := (rd.keeps ((Keeps.refl _ []).alloc (.cells #[.int .i64 1, .int .i64 2, .int .i64 0] 3))).keeps (kd m7)
  replace rx := (rx.keeps ((Keeps.refl _ []).alloc (.cells #[.int .i64 1, .int .i64 2, .int .i64 0] 3))).keeps (kd m7)
  replace ry := (ry.keeps ((Keeps.refl _ []).alloc (.cells #[.int .i64 1, .int .i64 2, .int .i64 0] 3))).keeps (kd m7)
  clear ra
  generalize World.drewN _ m7 = w7 at *
  go_wp2_with fail
  refine (same_yes _ _ [2, 1, 0, 2] _ rb rt (by decide)).mono ?_
  rintro e w8 ⟨rfl, m8, rfl⟩
  replace kw := kw.drewN m8
  replace rt := rt.keeps (kd m8)
  replace rd := rd.keeps (kd m8)
  replace rx := rx.keeps (kd m8)
  replace ry := ry.keeps (kd m8)
  clear rb
  generalize World.drewN _ m8 = w8 at *
  have hs := str_of rd Tryz.underlying36 Tryz.underlying5 Tryz.underlying9
  rw [ex_str] at hs
  go_wp2_with fail
  refine (same_yes _ _ [1] _ (rx.keeps ((Keeps.refl _ []).alloc _)) (blk_one (Blk.newAt rfl)) (by decide)).mono ?_
  rintro e w9 ⟨rfl, m9, rfl⟩
  replace kw := (kw.alloc (.cells #[.int .i64 1] 3)).drewN m9
  replace rt := (rt.keeps ((Keeps.refl _ []).alloc (.cells #[.int .i64 1] 3))).keeps (kd m9)
  replace ry := (ry.keeps ((Keeps.refl _ []).alloc (.cells #[.int .i64 1] 3))).keeps (kd m9)
  clear rx rd hs
  generalize World.drewN _ m9 = w9 at *
  go_wp2_with fail
  refine (same_yes _ _ [1, 1] _ (ry.keeps ((Keeps.refl _ []).alloc _)) (blk_two (Blk.newAt rfl)) (by decide)).mono ?_
  rintro e w10 ⟨rfl, m10, rfl⟩
  replace kw := (kw.alloc (.cells #[.int .i64 1, .int .i64 1] 3)).drewN m10
  replace rt := (rt.keeps ((Keeps.refl _ []).alloc (.cells #[.int .i64 1, .int .i64 1] 3))).keeps (kd m10)
  clear ry
  generalize World.drewN _ m10 = w10 at *
  go_wp2_with fail
  refine (ex_k _ _ (blk_one (Blk.newAt rfl))).mono ?_
  rintro e w11 ⟨vk, rfl, -, -, kk⟩
  replace kw := (kw.alloc _).then kk
  replace rt := (rt.keeps ((Keeps.refl _ []).alloc _)).keeps kk
  clear kk
  go_wp2_with fail
  refine (ex_l _ _ (blk_two (Blk.newAt rfl))).mono ?_
  rintro e w12 ⟨vl, rfl, -, -, kk⟩
  replace kw := (kw.alloc _).then kk
  replace rt := (rt.keeps ((Keeps.refl _ []).alloc _)).keeps kk
  clear kk
  go_wp2_with fail
  refine (ex_m _ _ (blk_two (Blk.newAt rfl))).mono ?_
  rintro e w13 ⟨vm, rfl, -, -, kk⟩
  replace kw := (kw.alloc _).then kk
  replace rt := (rt.keeps ((Keeps.refl _ []).alloc _)).keeps kk
  clear kk
  go_wp2_with fail
  refine (ex_z _ _ (blk_four (Blk.newAt rfl))).mono ?_
  rintro e w14 ⟨vz, rfl, rz, kk⟩
  replace kw := (kw.alloc _).then kk
  replace rt := (rt.keeps ((Keeps.refl _ []).alloc _)).keeps kk
  clear kk
  go_wp2_with fail
  refine (ex_o _ _ (blk_four (Blk.newAt rfl))).mono ?_
  rintro e w15 ⟨vo, rfl, -, kk⟩
  replace kw := (kw.alloc _).then kk
  replace rt := (rt.keeps ((Keeps.refl _ []).alloc _)).keeps kk
  replace rz := (rz.keeps ((Keeps.refl _ []).alloc _)).keeps kk
  clear kk
  go_wp2_with fail
  refine (ex_p _ _ (blk_one (Blk.newAt rfl))).mono ?_
  rintro e w16 ⟨vp, rfl, -, kk⟩
  replace kw := (kw.alloc _).then kk
  replace rt := (rt.keeps ((Keeps.refl _ []).alloc _)).keeps kk
  replace rz := (rz.keeps ((Keeps.refl _ []).alloc _)).keeps kk
  clear kk
  go_wp2_with fail
  refine (ex_q _ _ (blk_two (Blk.newAt rfl))).mono ?_
  rintro e w17 ⟨vq, rfl, -, kk⟩
  replace kw := (kw.alloc _).then kk
  replace rt := (rt.keeps ((Keeps.refl _ []).alloc _)).keeps kk
  replace rz := (rz.keeps ((Keeps.refl _ []).alloc _)).keeps kk
  clear kk
  go_wp2_with fail
  refine (ex_r _ _ (blk_three (Blk.newAt rfl))).mono ?_
  rintro e w18 ⟨vr, rfl, -, kk⟩
  replace kw := (kw.alloc _).then kk
  replace rt := (rt.keeps ((Keeps.refl _ []).alloc _)).keeps kk
  replace rz := (rz.keeps ((Keeps.refl _ []).alloc _)).keeps kk
  clear kk
  go_wp2_with fail
  refine (ex_s _ _ (blk_one (Blk.newAt rfl))).mono ?_
  rintro e w19 ⟨vs, rfl, -, kk⟩
  replace kw := (kw.alloc _).then kk
  replace rt := (rt.keeps ((Keeps.refl _ []).alloc _)).keeps kk
  replace rz := (rz.keeps ((Keeps.refl _ []).alloc _)).keeps kk
  clear kk
  go_wp2_with (first | (go_at_call 16; refine (no_any _ _).mono ?_; rintro e w' ⟨rfl, rfl⟩))
  refine (same_yes _ _ [2, 1, 0, 2] _ rz rt (by decide)).mono ?_
  rintro e w20 ⟨rfl, m20, rfl⟩
  replace kw := kw.drewN m20
  clear rz rt
  generalize World.drewN _ m20 = w20 at *
  go_wp2_with (first | (go_at_call 16; refine (no_any _ _).mono ?_; rintro e w' ⟨rfl, rfl⟩))
  go_ret
  exact ⟨rfl, kw⟩
end

section
set_option linter.unusedVariables false
set_option linter.unusedSimpArgs false
set_option linter.unusedSectionVars false
open Go.RowKit
end

section
set_option linter.unusedVariables false
set_option linter.unusedSimpArgs false
set_option linter.unusedSectionVars false
open Go.RowKit

theorem packB_byte (L : List Bool) : ∀ x ∈ packB L, 0 ≤ x ∧ x ≤ 255 := by obtain ⟨k, -, -, -, h⟩ := packB_bits L; exact h
theorem codedE_byte (l : List Int) : ∀ x ∈ codedE l, 0 ≤ x ∧ x ≤ 255 := by
  intro x hx
  simp only [codedE, List.mem_append, List.mem_singleton] at hx
  rcases hx with (((hx | hx) | hx) | hx) | hx
  · exact varI_byte hx
  · omega
  · exact packB_byte _ x hx
  · exact varI_byte hx
  · exact packB_byte _ x hx
theorem codedE_len {l : List Int} (hw : okW l = true) : (codedE l).length ≤ 3000 ∧ (varI l.length).length < (codedE l).length := by
  obtain ⟨h0, h255⟩ := okW_len hw
  obtain ⟨t1, -, -, t4, -⟩ := nmW_ok (okW_bound hw) h0
  have h1 := descE_len t1 t4
  have h2 := flW_len (okW_bound hw) h0 h255
  have h3 := varI_len 9 l.length (by omega)
  have h4 := varI_len 9 (flW l).length (by omega)
  simp only [codedE, List.length_append, List.length_singleton]
  omega
theorem codedE_way (l : List Int) : (codedE l)[(varI l.length).length]? = some 1 := by
  simp only [codedE, List.append_assoc]
  rw [List.getElem?_append_right (Nat.le_refl _), Nat.sub_self]
  rfl
theorem varI_pos1 (n : Nat) : 1 ≤ (varI n).length := by
  by_cases h : n < 128
  · rw [varI_small h]; simp
  · rw [varI_step (by omega)]; simp
theorem vary_len {n : Nat} (h : n ≤ 255) : (varI n).length = if 127 < n then 2 else 1 := by
  by_cases h1 : n < 128
  · rw [varI_small h1, if_neg (by omega)]; rfl
  · rw [varI_step (by omega), varI_small (by omega), if_pos (by omega)]; rfl
theorem vary_any (n : Nat) (h : n ≤ 255) (w : World) : Calls Tryz.prog 26 #[.int .i64 (n : Int)] w fun e w' => e = .returned (.int .i64 ((varI n).length : Nat)) ∧ w' = w := by
  have hv := vary_len h
  by_cases h1 : 127 < n
  · rw [if_pos h1] at hv
    rw [hv]
    have h1I : (127 : Int) < (n : Int) := by omega
    clear hv h h1
    go_enter Tryz.func26, Tryz.ntmps26
    go_wp2_with fail
    go_ret
    exact ⟨rfl, rfl⟩
  · rw [if_neg h1] at hv
    rw [hv]
    have h1I : decide ((127 : Int) < (n : Int)) = false := decide_eq_false (by omega)
    have h1N : decide (127 < n) = false := decide_eq_false h1
    clear hv h h1
    go_enter Tryz.func26, Tryz.ntmps26
    go_wp2_with fail
    go_ret
    exact ⟨rfl, rfl⟩

set_option maxRecDepth 100000 in
set_option maxHeartbeats 4000000 in
theorem law_coded (v : Value) (l : List Int) (w : World) (hv : RdI .i64 w v l) : Calls Tryz.prog 7 #[v] w (LawEnd w) := by
  obtain ⟨A0, n, cp0, rfl, hnl, -⟩ := hv.form
  by_cases hbig : 300 < n
  · clear hv hnl
    have h1 : (300 : Int) < (n : Int) := by omega
    go_enter Tryz.func7, Tryz.ntmps7
    go_wp2_with (go_at_call 12; refine (works_true _).mono ?_; rintro e w9 ⟨rfl, kk⟩)
    go_ret
    exact ⟨rfl, kk.below⟩
  have hd : decide ((300 : Int) < (n : Int)) = false := by simp; omega
  cases ht : okW l with
  | false =>
    have HEN := Lib.hid (encoded_any _ l w hv (by omega))
    have HTR := Lib.hid (fun W (k : Keeps w W []) => r_tree _ l W (hv.keeps k) (by omega))
    simp only [codedOut, treeOut, treeErr, ht, if_false, Bool.false_eq_true] at HEN HTR
    clear hv hnl
    go_enter Tryz.func7, Tryz.ntmps7
    go_wp2_with (first
      | (go_at_call 24; go_loud (refine HEN.out.mono ?_; rintro e w1 ⟨v1, rfl, r1, -, k1⟩; obtain ⟨a1, n1, c1, rfl, hn1, -⟩ := r1.form; obtain rfl : n1 = 0 := hn1; clear r1))
      | (go_at_call 18; go_loud (refine (HTR.out _ k1).mono ?_; rintro e w2 ⟨v2, rfl, -, -, k2⟩; have kk2 := k1.then k2))
      | (go_at_call 16; refine (no_any _ _).mono ?_; rintro e w' ⟨rfl, rfl⟩)
      | (go_at_call 12; refine (works_true _).mono ?_; rintro e w9 ⟨rfl, kk⟩))
    go_ret
    exact ⟨rfl, (kk2.then kk).below⟩
  | true =>
    obtain ⟨hl0, hl255⟩ := okW_len ht
    obtain ⟨hc1, hc2⟩ := codedE_len ht
    have HEN := Lib.hid (encoded_any _ l w hv (by omega))
    have HTR := Lib.hid (fun W (k : Keeps w W []) => r_tree _ l W (hv.keeps k) (by omega))
    simp only [codedOut, treeOut, treeErr, ht, if_true] at HEN HTR
    have HGT := Lib.hid (fun W u (h : RdI .u8 W u (codedE l)) => r16get_any 0 u (codedE l) W h (by omega) (codedE_byte l) (Nat.zero_le _))
    have hg := getW_coded (B := codedE l) (k := 0) (Z := []) ht (by simp)
    rw [Nat.zero_add] at hg
    rw [hg] at HGT
    unfold GtRef at HGT
    simp only at HGT
    have HVY := Lib.hid (fun W => vary_any n (by omega) W)
    have hvp := varI_pos1 l.length
    have HWY := Lib.hid (codedE_way l)
    rw [← hnl] at HWY hc2 hvp
    have htl := tOf_len l
    obtain ⟨T, hT⟩ : ∃ T, tOf l = T := ⟨_, rfl⟩
    rw [hT] at HGT HTR htl
    obtain ⟨CE, hCE⟩ : ∃ T, codedE l = T := ⟨_, rfl⟩
    rw [hCE] at HGT HEN HWY hc1 hc2
    obtain ⟨V, hV⟩ : ∃ T, (varI n).length = T := ⟨_, rfl⟩
    rw [hV] at HVY HWY hc2 hvp
    have HTL := Lib.hid (show T.length ≤ 1000000 by omega)
    obtain ⟨M, hM⟩ : ∃ M, CE.length = M := ⟨_, rfl⟩
    have HM := Lib.hid hM
    rw [hM] at HGT hc1 hc2
    have hM1 : (1 : Int) < (M : Int) := by omega
    have hVM : (V : Int) < (M : Int) := by omega
    clear hv hnl hg htl hT hCE hV hM hl0 hl255 ht
    go_enter Tryz.func7, Tryz.ntmps7
    go_wp2_with (first
      | (go_at_call 24; go_loud (refine HEN.out.mono ?_; rintro e w1 ⟨v1, rfl, r1, -, k1⟩; obtain ⟨a1, n1, c1, rfl, hn1, -⟩ := r1.form; obtain rfl : n1 = M := hn1.trans HM.out; have R1 := Lib.hid r1; clear r1 hn1))
      | (go_at_call 18; go_loud (refine (HTR.out _ k1).mono ?_; rintro e w2 ⟨v2, rfl, r2, -, k2⟩; have kk2 := k1.then k2; have R2 := Lib.hid r2; have K2 := Lib.hid k2; clear r2))
      | (go_at_call 25; go_loud (refine (HGT.out _ _ (R1.out.keeps K2.out)).mono ?_; rintro e w3 ⟨k3, v3, rfl, r3⟩; have kk3 := kk2.then k3; have R3 := Lib.hid r3; have RT := Lib.hid (R2.out.keeps k3); obtain ⟨b1, o1, rfl, hb1, hcc⟩ := ((R1.out.keeps K2.out).keeps k3).at HWY.out; have hcap := ((R1.out.keeps K2.out).keeps k3).cap; clear r3))
      | (go_at_call 26; go_loud (refine (HVY.out _).mono ?_; rintro e w4 ⟨rfl, rfl⟩))
      | (go_at_call 15; go_loud (refine (same_yes _ _ T _ R3.out RT.out HTL.out).mono ?_; rintro e w6 ⟨rfl, m6, rfl⟩; have kk6 := kk3.drewN m6; generalize World.drewN _ m6 = w6 at *))
      | (go_at_call 16; refine (no_any _ _).mono ?_; rintro e w' ⟨rfl, rfl⟩)
      | (go_at_call 12; refine (works_true _).mono ?_; rintro e w9 ⟨rfl, kk⟩))
    go_ret
    exact ⟨rfl, (kk6.then kk).below⟩
end

section
set_option linter.unusedVariables false
set_option linter.unusedSimpArgs false
set_option linter.unusedSectionVars false
open Go.ChangeShapes Go.WideShapes Go.ChangeAt Go.RowKit Go.Joins

section
variable {H : Type} {enc : TypeId × Value → H} {P : Program} {w : World} {base : Nat} {spare : Nat → Bool} {held : Bool}

end
end

section
set_option linter.unusedVariables false
set_option linter.unusedSimpArgs false
open Go.ChangeShapes Go.WideShapes Go.ChangeAt Go.RowKit Go.Joins

set_option maxRecDepth 100000 in
theorem weightsCoded_lifted (os : Os) (started : os.Started) (H : Type) (enc : TypeId × Value → H) :
    ReturnsInHanded {} Tryz.checked os 7 .any (Rows.weightsCodedSpec.pre6 enc Tryz.prog Tryz.f7 Rows.weightsCodedRow.domain false) (Rows.weightsCodedSpec.post enc Tryz.prog Tryz.f7 false true false false) :=
  returnsInHanded_of_change (C := Tryz.checked) Tryz.own started (by kernel_rfl) Tryz.func7
    (ChangeSpec.witness6 (enc := enc) (C := Tryz.checked) false ⟨#[], #[.slice none 0 0], []⟩ 8 (by kernel_rfl) (by kernel_rfl) (by kernel_rfl) (by kernel_rfl))
    (law_contract (C := Tryz.checked) Tryz.laidOut rfl
      (fun ds hd => by
        match ds, hd with
        | [d1], _ => rfl)
      (fun t ht => by
        have : t = 22 := by first | (simpa [Tryz.params7] using ht) | (have h9 := ht; simp [Tryz.params7] at h9; (repeat' (rcases h9 with h9 | h9)) <;> simp)
        rcases this with rfl <;> exact ⟨by kernel_rfl, of_decide_eq_true (by kernel_rfl)⟩)
      (tb := 4) rfl Tryz.underlying4
      (fun W base args ds ps hval0 hA0 hlt hnf => by
        have hval : ∀ (j : Nat) t v, Tryz.f7.params[j]? = some t → args[j]? = some v → Value.okWide Tryz.prog W .any base t v := hval0
        have hA : DataW.TrodAll enc Tryz.prog W 0 (fun _ => true) true Tryz.f7.params.toList args.toList ds ps := hA0
        rw [Tryz.params7] at hA hval
        obtain ⟨v0, d0, rfl, rfl, h0⟩ := trodAll_one hA
        obtain ⟨l, hl, hl'⟩ := open_nums Tryz.underlying22 Tryz.underlying3 (by kernel_rfl) (slice_cells Tryz.underlying22 (hval 0 22 v0 rfl rfl)) h0
        exact law_coded v0 l W hl))

theorem weightsCoded_holds : Rows.WeightsCodedSaid :=
  OpenClaim.holds_of_wide 7 Tryz.f7 rfl rfl rfl rfl rfl rfl rfl ⟨rfl, rfl, rfl, rfl, rfl⟩ rfl rfl rfl rfl rfl (by kernel_rfl) Tryz.func7 (by kernel_rfl)
    (of_decide_eq_true (by kernel_rfl)) (by unfold Func.isWrapper; first | (rw [if_pos (by decide +kernel)]; kernel_rfl) | (rw [if_neg (by decide +kernel)]; exact ⟨rfl, rfl⟩))
    (fun os started H enc _ => weightsCoded_lifted os started H enc)

#print axioms weightsCoded_holds
end

end Go.Proofs.YtophgpnnjphnmaaGreat
