/-
  Walks over package limit: Cost.
-/
import Derived.Test.YthjbngnihcmedaaJR
namespace Go.Proofs.Ythjbngnihcmedaa
set_option linter.unusedVariables false
set_option linter.unusedSimpArgs false
open Go.RowKit

def costS (x y : List Int) : List Int → Int
  | [] => 0
  | s :: t => keyC x s * atL y s.toNat + costS x y t
theorem costS_snoc (x y : List Int) (t : List Int) (s : Int) : costS x y (t ++ [s]) = costS x y t + keyC x s * atL y s.toNat := by
  induction t with
  | nil => simp [costS]
  | cons a t ih => simp only [List.cons_append, costS, ih]; omega
def longL (x y : List Int) : Bool := (usedL x).all fun s => decide (0 < atL y s.toNat)
def costErr (x y : List Int) : Int := if rightL x && withinL 60 y then (if longL x y then 0 else 18) else 2
def costOut (x y : List Int) : Int := costS x y (usedL x)
theorem atL_bd {y : List Int} (h : withinL 60 y = true) (s : Nat) : 0 ≤ atL y s ∧ atL y s ≤ 60 := by
  unfold atL
  cases he : y[s]? with
  | none => simp
  | some z => exact (withinL_iff.1 h).2 z (List.mem_of_getElem? he)
def CostEnd (w : World) (c E : Int) (e : Ending) (w' : World) : Prop := e = .returned (.tuple #[.int .i64 c, .int .i64 E]) ∧ Keeps w w' []

section
variable {P : Program} {md : Region.Mode} {os : List Oper} {Q : Exit → Act → World → Prop} {S : World → Prop}
theorem call2L {i j : Nat} {oi oj : Oper} {fuel : Nat} {listed : Array Bool} {a : Act} {w : World} (hi : os[i]? = some oi) (hj : os[j]? = some oj) (hr : Region.ready md os.toArray listed = [i, j])
    (h : ∀ K' : Act → World → Prop, Shut (∀ a w, S w → (S w → wpAnyH P md os.toArray Q S fuel (listed.setIfInBounds i true) a w) → K' a w) → if Region.wanted oi (yielded os.toArray a.tmps) = true then Oper.wp P oi a w K' Q else K' (a.put oi.dst undef) w)
    (g : ∀ K' : Act → World → Prop, Shut (∀ a w, S w → (S w → wpAnyH P md os.toArray Q S fuel (listed.setIfInBounds j true) a w) → K' a w) → if Region.wanted oj (yielded os.toArray a.tmps) = true then Oper.wp P oj a w K' Q else K' (a.put oj.dst undef) w) :
    wpAnyH P md os.toArray Q S (fuel + 1) listed a w :=
  wpAnyH_ready hr (by simp) (AllReadyH.cons (by simpa using hi) h (AllReadyH.cons (by simpa using hj) g AllReadyH.nil))
end
/-- What is asked behind a region in which nothing panics. -/
def Calm (Q : Exit → Act → World → Prop) : Exit → Act → World → Prop
  | .panic _, _, _ => False
  | e, a, w => Q e a w
theorem wp_calm {P : Program} {c : Code} {Q : Exit → Act → World → Prop} {a : Act} {w : World} (h : Code.wp P c (Calm Q) a w) : Code.wp P c Q a w :=
  Code.wp_mono (fun e a w h => by cases e <;> first | exact h | exact h.elim) h
theorem calm_normal {Q : Exit → Act → World → Prop} {a : Act} {w : World} (h : Q .normal a w) : Calm Q .normal a w := h
theorem holdC {w w' : World} {a b c : Addr} {x y z : Value} (h1 : w.cell? a = some x) (h2 : w.cell? b = some y) (h3 : w.cell? c = some z) (l1 : a.block < w.heap.size) (l2 : b.block < w.heap.size) (l3 : c.block < w.heap.size) (kk : Keeps w w' []) :
    w'.cell? a = some x ∧ w'.cell? b = some y ∧ w'.cell? c = some z := ⟨(kk.cell l1 (by simp)).trans h1, (kk.cell l2 (by simp)).trans h2, (kk.cell l3 (by simp)).trans h3⟩

set_option maxRecDepth 100000 in
set_option maxHeartbeats 8000000 in
theorem cost_fine (vx vy : Value) (x y : List Int) (w : World) (hx : RdI .i64 w vx x) (hy : RdI .i64 w vy y) (hr : rightL x = true) (h60 : withinL 60 y = true) :
    Calls Try.prog 28 #[vx, vy] w (CostEnd w (if longL x y then costOut x y else 0) (if longL x y then 0 else 18)) := by
  have hmf : ∀ (fn : Fn) (first cap : Array Value) (w : World), (Instr.makeFunc fn first cap).run Try.prog w = .ok (.func fn first cap) w := fun _ _ _ _ => rfl
  have hl1 := (rightL_iff.1 hr).1
  have hl2 := (withinL_iff.1 h60).1
  have HWX := Lib.hid (fun w' (k : Keeps w w' []) => within_any 2147483648 vx x w' (hx.keeps k) (by omega))
  have HWY := Lib.hid (fun w' (k : Keeps w w' []) => within_any 60 vy y w' (hy.keeps k) (by omega))
  have HU := Lib.hid (fun w' (k : Keeps w w' []) => used_any vx x w' (hx.keeps k) (by omega))
  have HAT := Lib.hid (fun w' (k : Keeps w w' []) (s : Nat) (hs : s ≤ 1000000000) => at_any vy y s w' (hy.keeps k) hs)
  have HV := Lib.hid hx
  obtain ⟨A0, n, cp0, rfl, hnl, -⟩ := hx.form
  obtain ⟨A1, n1, cp1, rfl, hnl1, -⟩ := hy.form
  obtain ⟨j0, hj, yz0, yz1, yz2⟩ := info_parts Try.infoInt
  have HN := Lib.hid hnl
  have HR := Lib.hid hr
  have H60 := Lib.hid h60
  have hul := usedL_len x
  have hn256 : n ≤ 256 := by omega
  obtain ⟨C, hC⟩ : ∃ C, C = if longL x y then costOut x y else 0 := ⟨_, rfl⟩
  obtain ⟨E, hE⟩ : ∃ E : Int, E = if longL x y then 0 else 18 := ⟨_, rfl⟩
  have HC := Lib.hid hC
  have HE := Lib.hid hE
  rw [← hC, ← hE]
  clear hx hy hr h60 hnl hnl1 hC hE
  go_enter_defers Try.func28, Try.ntmps28
  go_wp2_with fail
  have k0 : Keeps w ((((w.alloc (.cells #[.int .i64 0] 3)).alloc (.cells #[.int .i64 0] 26)).alloc (.cells #[.slice A0 n cp0] 59)).alloc (.cells #[.slice A1 n1 cp1] 59)) [] := ((((Keeps.refl w []).alloc _).alloc _).alloc _).alloc _
  have bo := ((Blk.new w #[.int .i64 0] 3).alloc (.cells #[.int .i64 0] 26)).alloc (.cells #[.slice A0 n cp0] 59) |>.alloc (.cells #[.slice A1 n1 cp1] 59)
  have be := ((Blk.new (w.alloc (.cells #[.int .i64 0] 3)) #[.int .i64 0] 26).alloc (.cells #[.slice A0 n cp0] 59)).alloc (.cells #[.slice A1 n1 cp1] 59)
  have bx := (Blk.new ((w.alloc (.cells #[.int .i64 0] 3)).alloc (.cells #[.int .i64 0] 26)) #[.slice A0 n cp0] 59).alloc (.cells #[.slice A1 n1 cp1] 59)
  have bY := Blk.new (((w.alloc (.cells #[.int .i64 0] 3)).alloc (.cells #[.int .i64 0] 26)).alloc (.cells #[.slice A0 n cp0] 59)) #[.slice A1 n1 cp1] 59
  simp only [World.size_alloc] at be bx bY
  have G1 := HWX.out _ k0
  rw [withinL_right, HR.out] at G1
  refine G1.mono ?_
  rintro e w1 ⟨rfl, k1⟩
  replace bo := bo.keeps k1 (by simp)
  replace be := be.keeps k1 (by simp)
  replace bx := bx.keeps k1 (by simp)
  replace bY := bY.keeps k1 (by simp)
  replace k0 := k0.then k1
  clear k1 G1
  obtain ⟨x0, x1⟩ := bx.one
  obtain ⟨y0, y1⟩ := bY.one
  go_wp2_with fail
  have G2 := HWY.out _ k0
  rw [H60.out] at G2
  refine G2.mono ?_
  rintro e w2 ⟨rfl, k2⟩
  replace bo := bo.keeps k2 (by simp)
  replace be := be.keeps k2 (by simp)
  replace bx := bx.keeps k2 (by simp)
  replace bY := bY.keeps k2 (by simp)
  replace k0 := k0.then k2
  clear k2 G2 x0 x1 y0 y1
  go_wp2_with fail
  refine (must_yes 2 w2).mono ?_
  rintro e w3 ⟨rfl, rfl⟩
  obtain ⟨x0, x1⟩ := bx.one
  go_wp2_with fail
  refine (HU.out _ k0).mono ?_
  rintro e w3 ⟨vu, rfl, own1, k1⟩
  obtain ⟨ad1, cp2, rfl⟩ := own_form own1
  have O1 := Lib.hid own1
  have hbo2 := bo.lt
  replace bo := bo.keeps k1 (by simp)
  replace be := be.keeps k1 (by simp)
  replace bx := bx.keeps k1 (by simp)
  replace bY := bY.keeps k1 (by simp)
  replace k0 := k0.then k1
  clear k1 own1 x0 x1
  go_wp2_with fail
  have k3 := Keeps.refl w3 []
  have hO := bo.lt
  have hY := bY.lt
  obtain ⟨UL, hUL⟩ : ∃ UL, UL = usedL x := ⟨_, rfl⟩
  obtain ⟨NU, hNU⟩ : ∃ NU, NU = (usedL x).length := ⟨_, rfl⟩
  have HUL := Lib.hid hUL
  have RU : Hid (RdI .i64 w3 (.slice ad1 NU cp2) UL) := by rw [hNU, hUL]; exact own_reads O1.out
  have HNU : Hid (UL.length = NU) := by show _ = _; rw [hUL, hNU]
  rw [← hNU]
  have hav : ∀ ad, ad1 = some ad → ad.block ≠ w.heap.size := fun ad he => by
    subst he
    have h := (O1.out.lt ad.block rfl).1
    have h2 := k0.size
    omega
  have hNU256 : NU ≤ 256 := by omega
  have BO := Lib.hid bo
  clear O1 hUL hNU
  go_loopw [28] (fun s28 wr => ∃ k : Nat, k ≤ NU ∧ s28 = .int .i64 k ∧ Hid (Blk wr w.heap.size #[.int .i64 (costS x y (UL.take k))] 3) ∧ Hid (∀ s ∈ UL.take k, 0 < atL y s.toNat) ∧ Hid (0 ≤ costS x y (UL.take k) ∧ costS x y (UL.take k) ≤ (k : Int) * 128849018880) ∧ Keeps w3 wr [w.heap.size]) (fun s28 _ => NU - (intOf s28).toNat)
  case atStart => exact ⟨0, Nat.zero_le _, rfl, BO, by show ∀ s ∈ _, _; intro s hs; simp at hs, by show _ ∧ _; simp [costS], Keeps.refl _ _⟩
  case round =>
    obtain ⟨k, hk, rfl, hBO, hPos, hBd, kw⟩ := hrel
    have KWR : Keeps w wr [] := k0.trans kw (fun x hx hlt => by have := List.mem_singleton.1 hx; omega)
    have BEX := Lib.hid (be.keeps kw (by simp))
    by_cases hlt : k < NU
    · obtain ⟨sy, hsy⟩ : ∃ sy, UL[k]? = some sy := ⟨_, List.getElem?_eq_getElem (by have := HNU.out; omega)⟩
      obtain ⟨a, rfl, z, hz, hz0⟩ := usedL_mem (HUL.out ▸ List.mem_of_getElem? hsy)
      have hzb := right_get HR.out hz
      have han := (List.getElem?_eq_some_iff.1 hz).1
      have hab := atL_bd H60.out a
      have rux := RU.out.keepsS kw (fun ad n c he h0 hm => by cases he; exact hav _ rfl (List.mem_singleton.1 hm))
      obtain ⟨b1, o1, rfl, hb1, c1⟩ := rux.at hsy
      have hcap1 := rux.cap
      obtain ⟨b2, o2, rfl, hb2, c20⟩ := HV.out.at hz
      have c2 := (KWR.cell (p := ⟨b2, o2 + a, none⟩) hb2 (by simp)).trans c20
      have hkwr := KWR.size
      have hcap2 := (HV.out).cap
      have hTK : UL.take (k + 1) = UL.take k ++ [(a : Int)] := by rw [List.take_add_one, hsy]; rfl
      have HTK : Hid (costS x y (UL.take (k + 1)) = costS x y (UL.take k) + z * atL y a) := by show _ = _; rw [hTK, costS_snoc, keyC_at hz, Int.toNat_natCast]
      obtain ⟨c4, c5⟩ := hBO.out.one
      obtain ⟨x0, x1⟩ := (bx.keeps kw (by simp; omega)).one
      obtain ⟨y0, y1⟩ := (bY.keeps kw (by simp; omega)).one
      have hkI : (k : Int) < (NU : Int) := by omega
      have hk0 : (0 : Int) ≤ (k : Int) := Int.natCast_nonneg _
      have haI : (a : Int) < (n : Int) := by have := HN.out; omega
      have ha0 : (0 : Int) ≤ (a : Int) := Int.natCast_nonneg _
      have hbd := hBd.out
      have hTM : 0 ≤ z * atL y a ∧ z * atL y a ≤ 128849018880 := ⟨Int.mul_nonneg (by omega) hab.1, Int.le_trans (Int.mul_le_mul hzb.2 hab.2 hab.1 (by omega)) (by decide)⟩
      have AT := Lib.hid (HAT.out wr KWR a (by omega))
      have HSY := Lib.hid hsy
      have HAL : Hid (¬ 0 < atL y a → longL x y = false) := fun h => by
        rw [← Bool.not_eq_true, longL, List.all_eq_true]
        intro h2
        exact h (by simpa using h2 (a : Int) (HUL.out ▸ List.mem_of_getElem? HSY.out))
      have HPN : Hid (0 < atL y a → ∀ s ∈ UL.take (k + 1), 0 < atL y s.toNat) := fun h s hs => by
        rw [hTK] at hs
        rcases List.mem_append.1 hs with hs | hs
        · exact hPos.out s hs
        · have := List.mem_singleton.1 hs; subst this; exact h
      have lx : w.heap.size + 1 + 1 < wr.heap.size := (bx.keeps kw (by simp; omega)).lt
      have ly : w.heap.size + 1 + 1 + 1 < wr.heap.size := (bY.keeps kw (by simp; omega)).lt
      have lb : b2 < wr.heap.size := Nat.lt_of_lt_of_le hb2 hkwr
      obtain ⟨T0, hT0⟩ : ∃ T0, T0 = atL y a := ⟨_, rfl⟩
      clear rux hsy hz hTK HSY
      obtain ⟨T, hTT⟩ : ∃ T, T = atL y a := ⟨_, rfl⟩
      have HTT : Hid (atL y a = T) := hTT.symm
      rw [← hTT] at hab hTM AT HTK HAL HPN
      clear hTT hT0
      generalize costS x y (UL.take k) = SUM at *
      have hkb : (k : Int) * 128849018880 ≤ 256 * 128849018880 := by omega
      have wz1 : IntKind.i64.wrap (z * T) = z * T := IntWalk.i64_in _ (by omega)
      have wz2 : IntKind.i64.wrap (SUM + z * T) = SUM + z * T := IntWalk.i64_in _ (by omega)
      go_wp2_with fail
      refine AT.out.mono ?_
      rintro e w4 ⟨rfl, rfl⟩
      by_cases hT : 0 < T
      · have dT : decide (0 < T) = true := decide_eq_true hT
        go_wp2_with fail
        refine (must_yes 18 _).mono ?_
        rintro e w5 ⟨rfl, rfl⟩
        go_wp2_with fail
        refine wp_calm ?_
        refine wp_region_held_drew (S := (fun w' => (w'.cell? ⟨w.heap.size + 1 + 1, 0, none⟩ = some (.slice (some ⟨b2, o2, none⟩) n cp0) ∧ w'.cell? ⟨w.heap.size + 1 + 1 + 1, 0, none⟩ = some (.slice A1 n1 cp1) ∧ w'.cell? ⟨b2, o2 + a, none⟩ = some (.int .i64 z)) ∧ Keeps w w' [])) (by kernel_rfl) ⟨holdC x0 y0 c2 lx ly lb (Keeps.refl _ _).drew, KWR.drew⟩ (fun hHeld => ?_)
        refine takeL (i := 1) (v := ?_) rfl (by kernel_rfl) (by kernel_rfl) (by kernel_rfl) (fun _ _ _ h => h) (by rfl) ?_ (by assumption) ?_
        rotate_left
        · (intro w hSw; (try dsimp only at hSw); go_simp; (try with_reducible rfl))
        try simp only [Act.put, List.setIfInBounds_toArray, List.set_cons_zero, List.set_cons_succ]
        refine takeL (i := 2) (v := ?_) rfl (by kernel_rfl) (by kernel_rfl) (by kernel_rfl) (fun _ _ _ h => h) (by rfl) ?_ (by assumption) ?_
        rotate_left
        · (intro w hSw; (try dsimp only at hSw); go_simp; (try with_reducible rfl))
        try simp only [Act.put, List.setIfInBounds_toArray, List.set_cons_zero, List.set_cons_succ]
        refine takeL (i := 3) (v := ?_) rfl (by kernel_rfl) (by kernel_rfl) (by kernel_rfl) (fun _ _ _ h => h) (by rfl) ?_ (by assumption) ?_
        rotate_left
        · (intro w hSw; (try dsimp only at hSw); go_simp; (try with_reducible rfl))
        try simp only [Act.put, List.setIfInBounds_toArray, List.set_cons_zero, List.set_cons_succ]
        refine takeL (i := 4) (v := ?_) rfl (by kernel_rfl) (by kernel_rfl) (by kernel_rfl) (fun _ _ _ h => h) (by rfl) ?_ (by assumption) ?_
        rotate_left
        · (intro w hSw; (try dsimp only at hSw); go_simp; (try with_reducible rfl))
        try simp only [Act.put, List.setIfInBounds_toArray, List.set_cons_zero, List.set_cons_succ]
        refine takeL (i := 5) (v := ?_) rfl (by kernel_rfl) (by kernel_rfl) (by kernel_rfl) (fun _ _ _ h => h) (by rfl) ?_ (by assumption) ?_
        rotate_left
        · (intro w hSw; (try dsimp only at hSw); go_simp; (try with_reducible rfl))
        try simp only [Act.put, List.setIfInBounds_toArray, List.set_cons_zero, List.set_cons_succ]
        refine takeL (i := 6) (v := ?_) rfl (by kernel_rfl) (by kernel_rfl) (by kernel_rfl) (fun _ _ _ h => h) (by rfl) ?_ (by assumption) ?_
        rotate_left
        · (intro w hSw; (try dsimp only at hSw); go_simp; (try with_reducible rfl))
        try simp only [Act.put, List.setIfInBounds_toArray, List.set_cons_zero, List.set_cons_succ]
        refine takeL (i := 7) (v := ?_) rfl (by kernel_rfl) (by kernel_rfl) (by kernel_rfl) (fun _ _ _ h => h) (by rfl) ?_ (by assumption) ?_
        rotate_left
        · (intro w hSw; (try dsimp only at hSw); go_simp; (try with_reducible rfl))
        try simp only [Act.put, List.setIfInBounds_toArray, List.set_cons_zero, List.set_cons_succ]
        refine takeL (i := 8) (v := ?_) rfl (by kernel_rfl) (by kernel_rfl) (by kernel_rfl) (fun _ _ _ h => h) (by rfl) ?_ (by assumption) ?_
        rotate_left
        · (intro w hSw; (try dsimp only at hSw); go_simp; (try with_reducible rfl))
        try simp only [Act.put, List.setIfInBounds_toArray, List.set_cons_zero, List.set_cons_succ]
        have KST : Keeps wr (wr.drew.setCell ⟨w.heap.size, 0, none⟩ (.int .i64 (SUM + z * T))) [w.heap.size] := (Keeps.refl wr _).drew.setCell (.inr (by simp)) _
        have KST2 : Keeps w (wr.drew.setCell ⟨w.heap.size, 0, none⟩ (.int .i64 (SUM + z * T))) [] := KWR.drew.setCell (.inl (Nat.le_refl _)) _
        have NB : Hid (Blk (wr.drew.setCell ⟨w.heap.size, 0, none⟩ (.int .i64 (SUM + z * T))) w.heap.size #[.int .i64 (costS x y (UL.take (k + 1)))] 3) := by
          show Blk _ _ _ _
          rw [HTK.out]
          exact hBO.out.drew.set 0 _
        have NBD : Hid (0 ≤ costS x y (UL.take (k + 1)) ∧ costS x y (UL.take (k + 1)) ≤ ((k + 1 : Nat) : Int) * 128849018880) := by
          show _ ∧ _
          rw [HTK.out]
          omega
        refine call2L (i := 0) (j := 9) rfl rfl (by kernel_rfl) (fun Kont hK => ?_) (fun Kont hK => ?_)
        · go_simp
          refine hK.out _ _ hHeld (fun hHeld => ?_)
          clear hK Kont
          refine callL (i := 9) rfl (by kernel_rfl) (fun Kont hK => ?_)
          go_simp
          refine (HAT.out _ hHeld.2 a (by omega)).mono ?_; rintro e w9 ⟨rfl, rfl⟩; rw [HTT.out]
          go_wp2_with fail
          refine hK.out _ _ ?_ (fun hHeld => ?_)
          · (exact hHeld)
          clear hK Kont
          refine takeL (i := 10) (v := ?_) rfl (by kernel_rfl) (by kernel_rfl) (by kernel_rfl) (fun _ _ _ h => h) (by rfl) ?_ (by assumption) ?_
          rotate_left
          · (intro w hSw; (try dsimp only at hSw); go_simp; (try with_reducible rfl))
          try simp only [Act.put, List.setIfInBounds_toArray, List.set_cons_zero, List.set_cons_succ]
          refine takeL (i := 11) (v := ?_) rfl (by kernel_rfl) (by kernel_rfl) (by kernel_rfl) (fun _ _ _ h => h) (by rfl) ?_ (by assumption) ?_
          rotate_left
          · (intro w hSw; (try dsimp only at hSw); go_simp; (try with_reducible rfl))
          try simp only [Act.put, List.setIfInBounds_toArray, List.set_cons_zero, List.set_cons_succ]
          refine callL (i := 12) rfl (by kernel_rfl) (fun Kont hK => ?_)
          go_simp
          refine hK.out _ _ ?_ (fun hHeld => ?_)
          · (exact ⟨⟨(KST.cell (p := ⟨w.heap.size + 1 + 1, 0, none⟩) lx (by simp; omega)).trans x0, (KST.cell (p := ⟨w.heap.size + 1 + 1 + 1, 0, none⟩) ly (by simp; omega)).trans y0, (KST.cell (p := ⟨b2, o2 + a, none⟩) lb (by simp; omega)).trans c2⟩, KST2⟩)
          clear hK Kont
          refine wpAnyH_done (by kernel_rfl) ?_ _
          refine calm_normal ?_
          go_wp2_with fail
          go_roundw
          case rel => exact ⟨k + 1, by omega, by go_num, NB, HPN.out hT, NBD, kw.drew.setCell (.inr (by simp)) _⟩
          case measure => simp [intOf]; omega
        · go_simp
          refine (HAT.out _ hHeld.2 a (by omega)).mono ?_; rintro e w9 ⟨rfl, rfl⟩; rw [HTT.out]
          go_wp2_with fail
          refine hK.out _ _ hHeld (fun hHeld => ?_)
          clear hK Kont
          refine takeL (i := 10) (v := ?_) rfl (by kernel_rfl) (by kernel_rfl) (by kernel_rfl) (fun _ _ _ h => h) (by rfl) ?_ (by assumption) ?_
          rotate_left
          · (intro w hSw; (try dsimp only at hSw); go_simp; (try with_reducible rfl))
          try simp only [Act.put, List.setIfInBounds_toArray, List.set_cons_zero, List.set_cons_succ]
          refine callL (i := 0) rfl (by kernel_rfl) (fun Kont hK => ?_)
          go_simp
          refine hK.out _ _ ?_ (fun hHeld => ?_)
          · (exact hHeld)
          clear hK Kont
          refine takeL (i := 11) (v := ?_) rfl (by kernel_rfl) (by kernel_rfl) (by kernel_rfl) (fun _ _ _ h => h) (by rfl) ?_ (by assumption) ?_
          rotate_left
          · (intro w hSw; (try dsimp only at hSw); go_simp; (try with_reducible rfl))
          try simp only [Act.put, List.setIfInBounds_toArray, List.set_cons_zero, List.set_cons_succ]
          refine callL (i := 12) rfl (by kernel_rfl) (fun Kont hK => ?_)
          go_simp
          refine hK.out _ _ ?_ (fun hHeld => ?_)
          · (exact ⟨⟨(KST.cell (p := ⟨w.heap.size + 1 + 1, 0, none⟩) lx (by simp; omega)).trans x0, (KST.cell (p := ⟨w.heap.size + 1 + 1 + 1, 0, none⟩) ly (by simp; omega)).trans y0, (KST.cell (p := ⟨b2, o2 + a, none⟩) lb (by simp; omega)).trans c2⟩, KST2⟩)
          clear hK Kont
          refine wpAnyH_done (by kernel_rfl) ?_ _
          refine calm_normal ?_
          go_wp2_with fail
          go_roundw
          case rel => exact ⟨k + 1, by omega, by go_num, NB, HPN.out hT, NBD, kw.drew.setCell (.inr (by simp)) _⟩
          case measure => simp [intOf]; omega
      · have dT : decide (0 < T) = false := decide_eq_false hT
        go_wp2_with fail
        refine (must_no 18 _).mono ?_
        rintro e w5 ⟨rfl, rfl⟩
        have HLF : Hid (longL x y = false) := HAL.out hT
        have HE2 : E = 18 := by rw [HE.out, HLF.out]; rfl
        have HC2 : C = 0 := by rw [HC.out, HLF.out]; rfl
        obtain ⟨e0, e1⟩ := BEX.out.one
        subst HE2 HC2
        go_wp2_with fail
        refine leaves_cons (f := 33) (args := #[.pointer (some ⟨w.heap.size + 1, 0, none⟩), .func (.func 49) #[] #[.pointer (some ⟨w.heap.size, 0, none⟩)]]) (by simp) (by simp [go_sem]) ?_
        refine (caught_cost _ _ 18 _ _ _ _ [] wr BEX.out hBO.out (by omega)).mono ?_
        rintro e u' w'' ⟨rfl, rfl, rfl⟩
        refine ⟨.tuple #[.int .i64 0, .int .i64 18], by simp only [results, Try.results28]; go_simp, ?_⟩
        refine ⟨rfl, ?_⟩
        exact Keeps.setCell' (.inl (by dsimp only; omega)) (Keeps.setCell' (.inl (by dsimp only; omega)) KWR)
    · obtain rfl : k = NU := by omega
      have HALL : Hid (longL x y = true) := by
        show _ = _
        rw [longL, List.all_eq_true]
        intro s hs
        rw [← HUL.out] at hs
        have h := hPos.out s (by rw [List.take_of_length_le (Nat.le_of_eq HNU.out)]; exact hs)
        simpa using h
      have HE2 : E = 0 := by rw [HE.out, HALL.out]; rfl
      have HC2 : C = costS x y UL := by rw [HC.out, HALL.out, HUL.out]; rfl
      have hBO2 := hBO.out
      rw [List.take_of_length_le (Nat.le_of_eq HNU.out), ← HC2] at hBO2
      obtain ⟨c4, c5⟩ := hBO2.one
      obtain ⟨e0, e1⟩ := BEX.out.one
      have HE3 := Lib.hid HE2
      clear HE HC HC2 HE2 hBd hBO hPos hBO2
      go_wp2_with fail
      refine leaves_cons (f := 33) (args := #[.pointer (some ⟨w.heap.size + 1, 0, none⟩), .func (.func 49) #[] #[.pointer (some ⟨w.heap.size, 0, none⟩)]]) (by simp) (by simp [go_sem]) ?_
      refine (caught_idle _ _ _).mono ?_
      rintro e u' w'' ⟨rfl, rfl, rfl⟩
      refine ⟨.tuple #[.int .i64 C, .int .i64 0], by simp only [results, Try.results28]; go_simp, ?_⟩
      rw [HE3.out]
      refine ⟨rfl, ?_⟩
      exact Keeps.setCell' (.inl (by dsimp only; omega)) (Keeps.setCell' (.inl (by dsimp only; omega)) KWR)

end Go.Proofs.Ythjbngnihcmedaa
