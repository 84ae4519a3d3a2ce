/-
  Walks over package limit: MaxLength, whatever it is asked.
-/
import Derived.Test.YthjbngnihcmedaaJX
namespace Go.Proofs.Ythjbngnihcmedaa
set_option linter.unusedVariables false
set_option linter.unusedSimpArgs false
open Go.RowKit

def maxErr (l : List Int) : Int := if withinL 60 l then (if 0 < (usedL l).length then 0 else 22) else 2
def maxOut (l : List Int) : Int := if maxErr l = 0 then Go.Lib.maxOf l else 0

set_option maxRecDepth 100000 in
set_option maxHeartbeats 2000000 in
theorem maxLen_arg (v : Value) (l : List Int) (w : World) (hv : RdI .i64 w v l) (hn : l.length ≤ 1000000) (h60 : withinL 60 l = false) : Calls Try.prog 30 #[v] w (CostEnd w 0 2) := by
  have H60 := Lib.hid h60
  clear h60
  have hmf : ∀ (fn : Fn) (first cap : Array Value) (w : World), (Instr.makeFunc fn first cap).run Try.prog w = .ok (.func fn first cap) w := fun _ _ _ _ => rfl
  have HW := Lib.hid (fun w' (k : Keeps w w' []) => within_any 60 v l w' (hv.keeps k) hn)
  have HU := Lib.hid (fun w' (k : Keeps w w' []) => used_any v l w' (hv.keeps k) hn)
  have HV := Lib.hid hv
  obtain ⟨A0, n, cp0, rfl, hnl, -⟩ := hv.form
  have HN := Lib.hid hnl
  clear hv hnl
  go_enter_defers Try.func30, Try.ntmps30
  go_wp2_with fail
  have k0 : Keeps w (((w.alloc (.cells #[.int .i64 0] 3)).alloc (.cells #[.int .i64 0] 26)).alloc (.cells #[.slice A0 n cp0] 59)) [] := (((Keeps.refl w []).alloc _).alloc _).alloc _
  have bo := ((Blk.new w #[.int .i64 0] 3).alloc (.cells #[.int .i64 0] 26)).alloc (.cells #[.slice A0 n cp0] 59)
  have be := (Blk.new (w.alloc (.cells #[.int .i64 0] 3)) #[.int .i64 0] 26).alloc (.cells #[.slice A0 n cp0] 59)
  have bx := Blk.new ((w.alloc (.cells #[.int .i64 0] 3)).alloc (.cells #[.int .i64 0] 26)) #[.slice A0 n cp0] 59
  simp only [World.size_alloc] at be bx
  refine (HW.out _ k0).mono ?_
  rintro e w1 ⟨rfl, k1⟩
  replace bo := bo.keeps k1 (by simp)
  replace be := be.keeps k1 (by simp)
  replace bx := bx.keeps k1 (by simp)
  replace k0 := k0.then k1
  clear k1
  obtain ⟨x0, x1⟩ := bx.one
  go_wp2_with fail
  refine (must_noB H60.out 2 _).mono ?_
  rintro e w5 ⟨rfl, rfl⟩
  obtain ⟨e0, e1⟩ := be.one
  obtain ⟨o0, o1⟩ := bo.one
  go_wp2_with fail
  refine leaves_cons (f := 33) (args := #[.pointer (some ⟨w.heap.size + 1, 0, none⟩), .func (.func 53) #[] #[.pointer (some ⟨w.heap.size, 0, none⟩)]]) (by simp) (by simp [go_sem]) ?_
  refine (caught_max _ _ 2 _ _ _ _ [] _ be bo (by omega)).mono ?_
  rintro e u' w'' ⟨rfl, rfl, rfl⟩
  refine ⟨.tuple #[.int .i64 0, .int .i64 2], by simp only [results, Try.results30]; go_simp, ?_⟩
  refine ⟨rfl, ?_⟩
  exact Keeps.setCell' (.inl (by dsimp only; omega)) (Keeps.setCell' (.inl (by dsimp only; omega)) k0)

set_option maxRecDepth 100000 in
set_option maxHeartbeats 2000000 in
theorem maxLen_none (v : Value) (l : List Int) (w : World) (hv : RdI .i64 w v l) (hn : l.length ≤ 1000000) (h60 : withinL 60 l = true) (hu : ¬ 0 < (usedL l).length) : Calls Try.prog 30 #[v] w (CostEnd w 0 22) := by
  have H60 := Lib.hid h60
  have HU0 := Lib.hid hu
  clear h60 hu
  have hmf : ∀ (fn : Fn) (first cap : Array Value) (w : World), (Instr.makeFunc fn first cap).run Try.prog w = .ok (.func fn first cap) w := fun _ _ _ _ => rfl
  have HW := Lib.hid (fun w' (k : Keeps w w' []) => within_any 60 v l w' (hv.keeps k) hn)
  have HU := Lib.hid (fun w' (k : Keeps w w' []) => used_any v l w' (hv.keeps k) hn)
  have HV := Lib.hid hv
  obtain ⟨A0, n, cp0, rfl, hnl, -⟩ := hv.form
  have HN := Lib.hid hnl
  clear hv hnl
  go_enter_defers Try.func30, Try.ntmps30
  go_wp2_with fail
  have k0 : Keeps w (((w.alloc (.cells #[.int .i64 0] 3)).alloc (.cells #[.int .i64 0] 26)).alloc (.cells #[.slice A0 n cp0] 59)) [] := (((Keeps.refl w []).alloc _).alloc _).alloc _
  have bo := ((Blk.new w #[.int .i64 0] 3).alloc (.cells #[.int .i64 0] 26)).alloc (.cells #[.slice A0 n cp0] 59)
  have be := (Blk.new (w.alloc (.cells #[.int .i64 0] 3)) #[.int .i64 0] 26).alloc (.cells #[.slice A0 n cp0] 59)
  have bx := Blk.new ((w.alloc (.cells #[.int .i64 0] 3)).alloc (.cells #[.int .i64 0] 26)) #[.slice A0 n cp0] 59
  simp only [World.size_alloc] at be bx
  refine (HW.out _ k0).mono ?_
  rintro e w1 ⟨rfl, k1⟩
  replace bo := bo.keeps k1 (by simp)
  replace be := be.keeps k1 (by simp)
  replace bx := bx.keeps k1 (by simp)
  replace k0 := k0.then k1
  clear k1
  obtain ⟨x0, x1⟩ := bx.one
  go_wp2_with fail
  refine (must_yesB H60.out 2 _).mono ?_
  rintro e w5 ⟨rfl, rfl⟩
  go_wp2_with fail
  refine (HU.out _ k0).mono ?_
  rintro e w2 ⟨v2, rfl, own2, k2⟩
  obtain ⟨a2, c2, rfl⟩ := own_form own2
  replace bo := bo.keeps k2 (by simp)
  replace be := be.keeps k2 (by simp)
  replace k0 := k0.then k2
  clear k2 own2
  go_wp2_with fail
  refine (must_noB (decide_eq_false (by have := HU0.out; omega)) 22 _).mono ?_
  rintro e w5 ⟨rfl, rfl⟩
  obtain ⟨e0, e1⟩ := be.one
  obtain ⟨o0, o1⟩ := bo.one
  go_wp2_with fail
  refine leaves_cons (f := 33) (args := #[.pointer (some ⟨w.heap.size + 1, 0, none⟩), .func (.func 53) #[] #[.pointer (some ⟨w.heap.size, 0, none⟩)]]) (by simp) (by simp [go_sem]) ?_
  refine (caught_max _ _ 22 _ _ _ _ [] _ be bo (by omega)).mono ?_
  rintro e u' w'' ⟨rfl, rfl, rfl⟩
  refine ⟨.tuple #[.int .i64 0, .int .i64 22], by simp only [results, Try.results30]; go_simp, ?_⟩
  refine ⟨rfl, ?_⟩
  exact Keeps.setCell' (.inl (by dsimp only; omega)) (Keeps.setCell' (.inl (by dsimp only; omega)) k0)

set_option maxRecDepth 100000 in
set_option maxHeartbeats 2000000 in
theorem maxLen_yes (v : Value) (l : List Int) (w : World) (hv : RdI .i64 w v l) (hn : l.length ≤ 1000000) (h60 : withinL 60 l = true) (hu : 0 < (usedL l).length) : Calls Try.prog 30 #[v] w (CostEnd w (Go.Lib.maxOf l) 0) := by
  have H60 := Lib.hid h60
  have HU0 := Lib.hid hu
  have hul := usedL_len l
  have hl0 : 0 < l.length := by omega
  clear h60 hu hul
  have hmf : ∀ (fn : Fn) (first cap : Array Value) (w : World), (Instr.makeFunc fn first cap).run Try.prog w = .ok (.func fn first cap) w := fun _ _ _ _ => rfl
  have HW := Lib.hid (fun w' (k : Keeps w w' []) => within_any 60 v l w' (hv.keeps k) hn)
  have HU := Lib.hid (fun w' (k : Keeps w w' []) => used_any v l w' (hv.keeps k) hn)
  have HV := Lib.hid hv
  obtain ⟨A0, n, cp0, rfl, hnl, -⟩ := hv.form
  have HN := Lib.hid hnl
  clear hv hnl
  go_enter_defers Try.func30, Try.ntmps30
  go_wp2_with fail
  have k0 : Keeps w (((w.alloc (.cells #[.int .i64 0] 3)).alloc (.cells #[.int .i64 0] 26)).alloc (.cells #[.slice A0 n cp0] 59)) [] := (((Keeps.refl w []).alloc _).alloc _).alloc _
  have bo := ((Blk.new w #[.int .i64 0] 3).alloc (.cells #[.int .i64 0] 26)).alloc (.cells #[.slice A0 n cp0] 59)
  have be := (Blk.new (w.alloc (.cells #[.int .i64 0] 3)) #[.int .i64 0] 26).alloc (.cells #[.slice A0 n cp0] 59)
  have bx := Blk.new ((w.alloc (.cells #[.int .i64 0] 3)).alloc (.cells #[.int .i64 0] 26)) #[.slice A0 n cp0] 59
  simp only [World.size_alloc] at be bx
  refine (HW.out _ k0).mono ?_
  rintro e w1 ⟨rfl, k1⟩
  replace bo := bo.keeps k1 (by simp)
  replace be := be.keeps k1 (by simp)
  replace bx := bx.keeps k1 (by simp)
  replace k0 := k0.then k1
  clear k1
  obtain ⟨x0, x1⟩ := bx.one
  go_wp2_with fail
  refine (must_yesB H60.out 2 _).mono ?_
  rintro e w5 ⟨rfl, rfl⟩
  go_wp2_with fail
  refine (HU.out _ k0).mono ?_
  rintro e w2 ⟨v2, rfl, own2, k2⟩
  obtain ⟨a2, c2, rfl⟩ := own_form own2
  replace bo := bo.keeps k2 (by simp)
  replace be := be.keeps k2 (by simp)
  replace k0 := k0.then k2
  clear k2 own2
  go_wp2_with fail
  refine (must_yesB (decide_eq_true (by have := HU0.out; omega)) 22 _).mono ?_
  rintro e w5 ⟨rfl, rfl⟩
  obtain ⟨b, o, rfl, hb, hc⟩ := (HV.out.keeps k0).addr (by have := HN.out; omega)
  have HM : Hid (∀ w', Keeps w2 w' [] → Calls Try.prog 54 #[.slice (some ⟨b, o, none⟩) n cp0] w' fun e w'' => e = .returned (.int .i64 (Go.Lib.maxOf l)) ∧ w' = w'') := fun w' kk => by
    have h := Try.slices_Max_int b o n cp0 l w' (by have := HN.out; omega) (by have := HN.out; omega) (by have := HN.out; omega) (fun j hj => by
      rw [List.getD_eq_getElem?_getD, List.getElem?_eq_getElem hj]
      exact (kk.cell (p := ⟨b, o + j, none⟩) hb (by simp)).trans (hc j _ (List.getElem?_eq_getElem hj)))
    rw [List.take_of_length_le (by have := HN.out; omega)] at h
    exact h.mono fun e w'' h => ⟨h.1, h.2.symm⟩
  clear hb hc
  obtain ⟨e0, e1⟩ := be.one
  obtain ⟨o0, o1⟩ := bo.one
  go_wp2_with fail
  refine (HM.out _ (Keeps.refl _ _)).mono ?_
  rintro e w3 ⟨rfl, rfl⟩
  go_wp2_with fail
  refine leaves_cons (f := 33) (args := #[.pointer (some ⟨w.heap.size + 1, 0, none⟩), .func (.func 53) #[] #[.pointer (some ⟨w.heap.size, 0, none⟩)]]) (by simp) (by simp [go_sem]) ?_
  refine (caught_idle _ _ _).mono ?_
  rintro e u' w'' ⟨rfl, rfl, rfl⟩
  refine ⟨.tuple #[.int .i64 (Go.Lib.maxOf l), .int .i64 0], by simp only [results, Try.results30]; go_simp, ?_⟩
  refine ⟨rfl, ?_⟩
  exact Keeps.setCell' (.inl (by dsimp only; omega)) (Keeps.setCell' (.inl (by dsimp only; omega)) k0)

/-- MaxLength, whatever it is asked. -/
theorem maxLen_any (v : Value) (l : List Int) (w : World) (hv : RdI .i64 w v l) (hn : l.length ≤ 1000000) : Calls Try.prog 30 #[v] w (CostEnd w (maxOut l) (maxErr l)) := by
  cases h60 : withinL 60 l with
  | false =>
    have e : maxErr l = 2 := by simp [maxErr, h60]
    rw [maxOut, e, if_neg (by decide)]
    exact maxLen_arg v l w hv hn h60
  | true =>
    by_cases hu : 0 < (usedL l).length
    · have e : maxErr l = 0 := by rw [maxErr, h60, if_pos rfl, if_pos hu]
      rw [maxOut, e, if_pos rfl]
      exact maxLen_yes v l w hv hn h60 hu
    · have e : maxErr l = 22 := by rw [maxErr, h60, if_pos rfl, if_neg hu]
      rw [maxOut, e, if_neg (by decide)]
      exact maxLen_none v l w hv hn h60 hu

end Go.Proofs.Ythjbngnihcmedaa
