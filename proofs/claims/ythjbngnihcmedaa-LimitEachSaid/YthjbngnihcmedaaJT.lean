/-
  Walks over package limit: Cost, whatever it is asked.
-/
import Derived.Test.YthjbngnihcmedaaJS
namespace Go.Proofs.Ythjbngnihcmedaa
set_option linter.unusedVariables false
set_option linter.unusedSimpArgs false
open Go.RowKit

set_option maxRecDepth 100000 in
set_option maxHeartbeats 4000000 in
theorem cost_left (vx vy : Value) (x y : List Int) (w : World) (hx : RdI .i64 w vx x) (hy : RdI .i64 w vy y) (hn : x.length ≤ 1000000) (hn1 : y.length ≤ 1000000) (hr : rightL x = false) :
    Calls Try.prog 28 #[vx, vy] w (CostEnd w 0 2) := by
  have hmf : ∀ (fn : Fn) (first cap : Array Value) (w : World), (Instr.makeFunc fn first cap).run Try.prog w = .ok (.func fn first cap) w := fun _ _ _ _ => rfl
  have HWX := Lib.hid (fun w' (k : Keeps w w' []) => within_any 2147483648 vx x w' (hx.keeps k) (by omega))
  have HWY := Lib.hid (fun w' (k : Keeps w w' []) => within_any 60 vy y w' (hy.keeps k) (by omega))
  obtain ⟨A0, n, cp0, rfl, hnl, -⟩ := hx.form
  obtain ⟨A1, n1, cp1, rfl, hnl1, -⟩ := hy.form
  have HR := Lib.hid hr
  clear hx hy hr hnl hnl1
  go_enter_defers Try.func28, Try.ntmps28
  go_wp2_with fail
  have k0 : Keeps w ((((w.alloc (.cells #[.int .i64 0] 3)).alloc (.cells #[.int .i64 0] 26)).alloc (.cells #[.slice A0 n cp0] 59)).alloc (.cells #[.slice A1 n1 cp1] 59)) [] := ((((Keeps.refl w []).alloc _).alloc _).alloc _).alloc _
  have bo := ((Blk.new w #[.int .i64 0] 3).alloc (.cells #[.int .i64 0] 26)).alloc (.cells #[.slice A0 n cp0] 59) |>.alloc (.cells #[.slice A1 n1 cp1] 59)
  have be := ((Blk.new (w.alloc (.cells #[.int .i64 0] 3)) #[.int .i64 0] 26).alloc (.cells #[.slice A0 n cp0] 59)).alloc (.cells #[.slice A1 n1 cp1] 59)
  have bx := (Blk.new ((w.alloc (.cells #[.int .i64 0] 3)).alloc (.cells #[.int .i64 0] 26)) #[.slice A0 n cp0] 59).alloc (.cells #[.slice A1 n1 cp1] 59)
  have bY := Blk.new (((w.alloc (.cells #[.int .i64 0] 3)).alloc (.cells #[.int .i64 0] 26)).alloc (.cells #[.slice A0 n cp0] 59)) #[.slice A1 n1 cp1] 59
  simp only [World.size_alloc] at be bx bY
  have G1 := HWX.out _ k0
  rw [withinL_right, HR.out] at G1
  refine G1.mono ?_
  rintro e w1 ⟨rfl, k1⟩
  replace bo := bo.keeps k1 (by simp)
  replace be := be.keeps k1 (by simp)
  replace bx := bx.keeps k1 (by simp)
  replace bY := bY.keeps k1 (by simp)
  replace k0 := k0.then k1
  clear k1 G1
  obtain ⟨x0, x1⟩ := bx.one
  obtain ⟨y0, y1⟩ := bY.one
  go_wp2_with fail
  refine (must_no 2 w1).mono ?_
  rintro e w5 ⟨rfl, rfl⟩
  obtain ⟨e0, e1⟩ := be.one
  obtain ⟨o0, o1⟩ := bo.one
  go_wp2_with fail
  refine leaves_cons (f := 33) (args := #[.pointer (some ⟨w.heap.size + 1, 0, none⟩), .func (.func 49) #[] #[.pointer (some ⟨w.heap.size, 0, none⟩)]]) (by simp) (by simp [go_sem]) ?_
  refine (caught_cost _ _ 2 _ _ _ _ [] w1 be bo (by omega)).mono ?_
  rintro e u' w'' ⟨rfl, rfl, rfl⟩
  refine ⟨.tuple #[.int .i64 0, .int .i64 2], by simp only [results, Try.results28]; go_simp, ?_⟩
  refine ⟨rfl, ?_⟩
  exact Keeps.setCell' (.inl (by dsimp only; omega)) (Keeps.setCell' (.inl (by dsimp only; omega)) k0)

set_option maxRecDepth 100000 in
set_option maxHeartbeats 4000000 in
theorem cost_right (vx vy : Value) (x y : List Int) (w : World) (hx : RdI .i64 w vx x) (hy : RdI .i64 w vy y) (hn : x.length ≤ 1000000) (hn1 : y.length ≤ 1000000) (hr : rightL x = true) (h60 : withinL 60 y = false) :
    Calls Try.prog 28 #[vx, vy] w (CostEnd w 0 2) := by
  have hmf : ∀ (fn : Fn) (first cap : Array Value) (w : World), (Instr.makeFunc fn first cap).run Try.prog w = .ok (.func fn first cap) w := fun _ _ _ _ => rfl
  have HWX := Lib.hid (fun w' (k : Keeps w w' []) => within_any 2147483648 vx x w' (hx.keeps k) (by omega))
  have HWY := Lib.hid (fun w' (k : Keeps w w' []) => within_any 60 vy y w' (hy.keeps k) (by omega))
  obtain ⟨A0, n, cp0, rfl, hnl, -⟩ := hx.form
  obtain ⟨A1, n1, cp1, rfl, hnl1, -⟩ := hy.form
  have HR := Lib.hid hr
  have H60 := Lib.hid h60
  clear h60
  clear hx hy hr hnl hnl1
  go_enter_defers Try.func28, Try.ntmps28
  go_wp2_with fail
  have k0 : Keeps w ((((w.alloc (.cells #[.int .i64 0] 3)).alloc (.cells #[.int .i64 0] 26)).alloc (.cells #[.slice A0 n cp0] 59)).alloc (.cells #[.slice A1 n1 cp1] 59)) [] := ((((Keeps.refl w []).alloc _).alloc _).alloc _).alloc _
  have bo := ((Blk.new w #[.int .i64 0] 3).alloc (.cells #[.int .i64 0] 26)).alloc (.cells #[.slice A0 n cp0] 59) |>.alloc (.cells #[.slice A1 n1 cp1] 59)
  have be := ((Blk.new (w.alloc (.cells #[.int .i64 0] 3)) #[.int .i64 0] 26).alloc (.cells #[.slice A0 n cp0] 59)).alloc (.cells #[.slice A1 n1 cp1] 59)
  have bx := (Blk.new ((w.alloc (.cells #[.int .i64 0] 3)).alloc (.cells #[.int .i64 0] 26)) #[.slice A0 n cp0] 59).alloc (.cells #[.slice A1 n1 cp1] 59)
  have bY := Blk.new (((w.alloc (.cells #[.int .i64 0] 3)).alloc (.cells #[.int .i64 0] 26)).alloc (.cells #[.slice A0 n cp0] 59)) #[.slice A1 n1 cp1] 59
  simp only [World.size_alloc] at be bx bY
  have G1 := HWX.out _ k0
  rw [withinL_right, HR.out] at G1
  refine G1.mono ?_
  rintro e w1 ⟨rfl, k1⟩
  replace bo := bo.keeps k1 (by simp)
  replace be := be.keeps k1 (by simp)
  replace bx := bx.keeps k1 (by simp)
  replace bY := bY.keeps k1 (by simp)
  replace k0 := k0.then k1
  clear k1 G1
  obtain ⟨x0, x1⟩ := bx.one
  obtain ⟨y0, y1⟩ := bY.one
  go_wp2_with fail
  have G2 := HWY.out _ k0
  rw [H60.out] at G2
  refine G2.mono ?_
  rintro e w2 ⟨rfl, k2⟩
  replace bo := bo.keeps k2 (by simp)
  replace be := be.keeps k2 (by simp)
  replace k0 := k0.then k2
  clear k2 G2 x0 x1 y0 y1
  go_wp2_with fail
  refine (must_no 2 w2).mono ?_
  rintro e w5 ⟨rfl, rfl⟩
  obtain ⟨e0, e1⟩ := be.one
  obtain ⟨o0, o1⟩ := bo.one
  go_wp2_with fail
  refine leaves_cons (f := 33) (args := #[.pointer (some ⟨w.heap.size + 1, 0, none⟩), .func (.func 49) #[] #[.pointer (some ⟨w.heap.size, 0, none⟩)]]) (by simp) (by simp [go_sem]) ?_
  refine (caught_cost _ _ 2 _ _ _ _ [] w2 be bo (by omega)).mono ?_
  rintro e u' w'' ⟨rfl, rfl, rfl⟩
  refine ⟨.tuple #[.int .i64 0, .int .i64 2], by simp only [results, Try.results28]; go_simp, ?_⟩
  refine ⟨rfl, ?_⟩
  exact Keeps.setCell' (.inl (by dsimp only; omega)) (Keeps.setCell' (.inl (by dsimp only; omega)) k0)

/-- Cost, whatever it is asked. -/
theorem cost_any (vx vy : Value) (x y : List Int) (w : World) (hx : RdI .i64 w vx x) (hy : RdI .i64 w vy y) (hn : x.length ≤ 1000000) (hn1 : y.length ≤ 1000000) :
    Calls Try.prog 28 #[vx, vy] w (CostEnd w (if costErr x y = 0 then costOut x y else 0) (costErr x y)) := by
  cases hr : rightL x with
  | false =>
    have e : costErr x y = 2 := by simp [costErr, hr]
    rw [e, if_neg (by decide)]
    exact cost_left vx vy x y w hx hy hn hn1 hr
  | true =>
    cases h60 : withinL 60 y with
    | false =>
      have e : costErr x y = 2 := by simp [costErr, h60]
      rw [e, if_neg (by decide)]
      exact cost_right vx vy x y w hx hy hn hn1 hr h60
    | true =>
      have G := cost_fine vx vy x y w hx hy hr h60
      have e : costErr x y = if longL x y then 0 else 18 := by simp [costErr, hr, h60]
      rw [e]
      cases hl : longL x y with
      | true => rw [hl] at G; simpa using G
      | false => rw [hl] at G; simpa using G

end Go.Proofs.Ythjbngnihcmedaa
