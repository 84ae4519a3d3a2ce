/-
  Walks over the reference of cells: Of.
-/
import Derived.Test.YtcmagccfagijlaaGreatQ19
import Derived.Test.YtcmagccfagijlaaGreatQ21
import Derived.BigQuiet
import Derived.Test.YtcmagccfagijlaaGreatQ1
namespace Go.Proofs.YtcmagccfagijlaaGreat
set_option linter.unusedVariables false
set_option linter.unusedSimpArgs false
set_option linter.unusedSectionVars false
open Go.RowKit

set_option maxRecDepth 100000 in
set_option maxHeartbeats 2000000 in
theorem rcof_bad (g : Int) (nv : Value) (norm : List Int) (w : World) (hv : RdI .i64 w nv norm) (hn : norm.length ≤ 1000000) (hok : okN g norm 256 9 = false) :
    Calls Tryz.prog 168 #[.agg #[.int .i64 g, nv]] w fun e w' => e = .returned (.tuple #[.slice none 0 0, .int .i64 13]) ∧ Keeps w w' [] := by
  obtain ⟨A0, m, cp0, rfl, hnl, -⟩ := hv.form
  have k0 := (Keeps.refl w []).alloc (.cells #[.int .i64 g, .slice A0 m cp0] 27)
  have b0 := Blk.new w #[.int .i64 g, .slice A0 m cp0] 27
  have HM := Lib.hid (rsof_bad g _ norm _ (hv.keeps k0) hn hok)
  clear hv hnl hn hok
  go_enter Tryz.func168, Tryz.ntmps168
  go_wp2_with (go_at_call 196; refine HM.out.mono ?_; rintro e w1 ⟨rfl, k1⟩)
  go_ret2
  exact ⟨rfl, k0.then k1⟩

/-- append of one cell, just laid, to a slice of the call's own, in a region that draws its order. -/
theorem step_appC {P : Program} {ops : Array Oper} {o : Oper} {a : Act} {w : World} {K : Act → World → Prop} {Q : Exit → Act → World → Prop} {E : Prop} (hgd : o.guard = none) (s x : Operand) (t : TypeId)
    (ho : o.op = .call { callee := .builtin .append, args := #[s, x], argTypes := #[t, t] })
    (base : Nat) (i : TypeInfo) (ht : P.underlying t = some (.slice 212)) (hi : P.info? 212 = some i) (hz : i.zero = some (.agg #[.int .i64 0, .int .i64 0, .int .i64 0])) (hsize : i.size = 3) (hby : i.bytes = 24)
    (v : Value) (n : Nat) (L : List Cel) (c : Cel) (B : Nat) (hs : a.eval s = v) (hx : a.eval x = .slice (some ⟨B, 0, none⟩) 1 1) (hb : Blk w B #[.int .i64 (c.1 : Int), .int .i64 (c.2.1 : Int), .int .i64 (c.2.2 : Int)] 212)
    (hown : w.ownsRow base 212 3 v n (cellsW rowC L)) (h63 : n ≤ 10000000) (hbase : base ≤ w.heap.size)
    (h : ∀ a' c' w', w'.ownsRow base 212 3 (.slice a' (n + 1) c') (n + 1) (cellsW rowC (L ++ [c])) → Keeps w w' (match v.ownBlock with | some g => [g] | none => []) → K (a.put o.dst (.slice a' (n + 1) c')) w') :
    if Region.wanted o (yielded ops a.tmps) = true then Oper.wp P o a w K Q else E := by
  have hw : Region.wanted o (yielded ops a.tmps) = true := by simp [Region.wanted, hgd]
  rw [if_pos hw]
  refine wp_append_own w s x t ho base _ i (.agg #[.int .i64 0, .int .i64 0, .int .i64 0]) 3 24 ht hi hz hsize hby rfl (by decide) v n (cellsW rowC L) hs hown _ 1 1 (rowC c) hx rfl (fun j u hj => ?_) (rowC_one c) (by unfold maxLen; omega) (by omega) hbase ?_
  · have e : (⟨B, 0, none⟩ : Addr).add j = ⟨B, j, none⟩ := by simp [Addr.add]; (try (intro h; omega))
    rw [e, hb.cell]
    simpa [rowC] using hj
  intro v3 w3 h3 g3 _
  obtain ⟨a3, c3, rfl⟩ := own_form h3
  refine h a3 c3 w3 ?_ (Keeps.of_grown g3 (fun k hk => by rw [hk]; simp))
  have : cellsW rowC L ++ rowC c = cellsW rowC (L ++ [c]) := by
    rw [cellsW_append rowC_len]
    show _ = _ ++ (rowC c ++ [])
    rw [List.append_nil]
  rw [this] at h3
  exact h3

theorem count_snoc {l : List Nat} {j y s : Nat} (h : l[j]? = some y) : (l.take (j + 1)).count s = (l.take j).count s + (if y = s then 1 else 0) := by
  rw [List.take_add_one, h, List.count_append]
  simp [List.count_cons]
theorem log2_half {x : Nat} (h : 2 ≤ x) : (x / 2).log2 + 1 = x.log2 := by
  rw [Nat.log2_def x, if_pos (by omega)]

set_option maxRecDepth 100000 in
set_option maxHeartbeats 4000000 in
theorem rcof_ok (G : Nat) (nv : Value) (norm : List Int) (w : World) (hv : RdI .i64 w nv norm) (hok : okN (G : Int) norm 256 9 = true) (ht : TblOk G norm) :
    Calls Tryz.prog 168 #[.agg #[.int .i64 (G : Int), nv]] w fun e w' => ∃ a c, e = .returned (.tuple #[.slice a (2 ^ G) c, .int .i64 0]) ∧ w'.ownsRow w.heap.size 212 3 (.slice a (2 ^ G) c) (2 ^ G) (cellsW rowC (cellsL G norm (2 ^ G))) ∧ Keeps w w' [] := by
  obtain ⟨i0, hi, hz0, hz1, hz2⟩ := info_parts Tryz.infoCel
  obtain ⟨A0, m, cp0, rfl, hnl, -⟩ := hv.form
  have k0 := (Keeps.refl w []).alloc (.cells #[.int .i64 (G : Int), .slice A0 m cp0] 27)
  have b0 := Blk.new w #[.int .i64 (G : Int), .slice A0 m cp0] 27
  have HM := Lib.hid (rsof_ok G _ norm _ (hv.keeps k0) hok ht)
  obtain ⟨hs1, hs2⟩ := ht.size
  have HT := Lib.hid ht
  have HV := Lib.hid hv
  have HNL := Lib.hid hnl
  obtain ⟨S, hS⟩ : ∃ S, 2 ^ G = S := ⟨_, rfl⟩
  rw [hS] at HM hs1 hs2 ⊢
  have HSG := Lib.hid hS
  have hcap := hv.cap
  clear hv hnl hok ht hS
  go_enter Tryz.func168, Tryz.ntmps168
  go_wp2_with (go_at_call 196; refine HM.out.mono ?_; rintro e w1 ⟨o, oc, rfl, ho, row, k1⟩; have B1 := Lib.hid (b0.keeps k1 (by simp)); have KK1 := Lib.hid (k0.then k1); have ROW1 := Lib.hid row; clear k1 row)
  have hrc := ROW1.out.cap
  have hs := KK1.out.size
  have hT1 := B1.out.lt
  simp only [World.size_alloc] at ho
  go_loopw [6, 7] (fun s6 s7 wr => ∃ (i c : Nat) (a : Option Addr), i ≤ S ∧ s7 = .int .i64 (i : Int) ∧ s6 = .slice a i c ∧ wr.ownsRow w1.heap.size 212 3 (.slice a i c) i (cellsW rowC (cellsL G norm i)) ∧ Keeps w1 wr []) (fun _ s7 _ => S - (intOf s7).toNat)
  case atStart => exact ⟨0, 0, none, by omega, rfl, rfl, by first | exact World.ownsRow_nil _ _ _ _ | simpa [cellsL] using World.ownsRow_nil _ _ _ _, Keeps.refl _ _⟩
  case round =>
    obtain ⟨i, c, a, hi', rfl, rfl, own, kk⟩ := hrel
    obtain ⟨wo, hwo⟩ : ∃ x, x = wr := ⟨_, rfl⟩
    subst hwo
    have OW := Lib.hid own
    have KK := Lib.hid kk
    clear own kk
    by_cases hlt : i < S
    · have hlt2 : (i : Int) < (S : Int) := by omega
      have HPL : Hid (∀ t, t < S → (castL (placesL G norm))[t]? = some ((placeN G norm t : Nat) : Int)) := Lib.hid (fun t ht => by
        have h3 := placesL_get (g := G) (p := t) (norm := norm) (by rw [HSG.out]; exact ht)
        simp [castL, h3])
      have HPG : Hid (∀ t, t < S → (placesL G norm)[t]? = some (placeN G norm t)) := Lib.hid (fun t ht => placesL_get (by rw [HSG.out]; exact ht))
      have HCL := Lib.hid (fun t (ht : t < S) W (kk : Keeps w1 W []) => (ROW1.out.keeps kk (by simp)).at (HPL.out t ht))
      obtain ⟨s, hsy⟩ : ∃ s, placeN G norm i = s := ⟨_, rfl⟩
      have HSY := Lib.hid hsy
      clear hsy
      go_wp2_with fail
      go_loopw [8, 9] (fun s8 s9 wr => ∃ (j : Nat), j ≤ i ∧ s9 = .int .i64 (j : Int) ∧ s8 = .int .i64 ((((placesL G norm).take j).count s : Nat) : Int) ∧ Keeps wo wr []) (fun _ s9 _ => i - (intOf s9).toNat)
      case atStart => exact ⟨0, by omega, rfl, by simp, Keeps.refl _ _⟩
      case round =>
        obtain ⟨j, hj, rfl, rfl, k2⟩ := hrel
        by_cases hji : j < i
        · have hji2 : (j : Int) < (i : Int) := by omega
          have c5 := HCL.out j (by omega) wr (KK.out.then k2)
          have c6 := HCL.out i hlt wr (KK.out.then k2)
          rw [HSY.out] at c6
          have HSN := Lib.hid (count_snoc (s := s) (HPG.out j (by omega)))
          obtain ⟨y, hy⟩ : ∃ y, placeN G norm j = y := ⟨_, rfl⟩
          rw [hy] at c5 HSN
          have hjS : (j : Int) < (S : Int) := by omega
          have hcn : ((placesL G norm).take j).count s ≤ j := Nat.le_trans List.count_le_length (List.length_take_le _ _)
          obtain ⟨n, hn⟩ : ∃ n, ((placesL G norm).take j).count s = n := ⟨_, rfl⟩
          rw [hn] at hcn HSN ⊢
          have hn5 : n ≤ 512 := by omega
          have K2 := Lib.hid k2
          clear hy hn k2
          by_cases hys : y = s
          · subst hys
            have hyb : (((y : Nat) : Int) == ((y : Nat) : Int)) = true := by simp
            go_wp2_with fail
            go_quiet (fail)
            go_wp2_with fail
            go_roundw
            case rel => exact ⟨j + 1, by omega, by simp, by rw [HSN.out]; simp, K2.out.drewN _⟩
            case measure => simp only [intOf]; omega
          · have hyb : (((y : Nat) : Int) == ((s : Nat) : Int)) = false := by simp; omega
            have hyb2 : (y == s) = false := by simp; exact hys
            go_wp2_with fail
            go_quiet (fail)
            go_wp2_with fail
            go_roundw
            case rel => exact ⟨j + 1, by omega, by simp, by rw [HSN.out, if_neg hys]; simp, K2.out.drewN _⟩
            case measure => simp only [intOf]; omega
        · obtain rfl : i = j := by omega
          have hjj : ¬ (i : Int) < (i : Int) := by omega
          obtain ⟨x, hx, hgx⟩ := placeN_norm (p := i) HT.out
          rw [HSY.out] at hx hgx
          obtain ⟨hx1, hx5⟩ := HT.out.ent hx
          have hpos := placeN_pos HT.out (p := i) (by rw [HSG.out]; exact hlt)
          rw [HSY.out, hgx] at hpos
          have HST := Lib.hid (fun W => (rstates_any x W).mono (fun e w' h => (⟨h.1, h.2.symm⟩ : e = .returned (.int .i64 (stN x)) ∧ w' = W)))
          obtain ⟨Y1, hY1⟩ : ∃ Y1, stN x = Y1 := ⟨_, rfl⟩
          rw [hY1] at HST hpos
          obtain ⟨n, hn⟩ : ∃ n, ((placesL G norm).take i).count s = n := ⟨_, rfl⟩
          have hcn : ((placesL G norm).take i).count s ≤ i := Nat.le_trans List.count_le_length (List.length_take_le _ _)
          rw [hn] at hcn ⊢
          have hY5 : Y1 ≤ 512 := by rw [← hY1]; unfold stN; split <;> omega
          have HX : Hid (((cellX G norm i : Nat) : Int) = Y1 + (n : Int)) := Lib.hid (by
            unfold cellX
            rw [HSY.out, hgx, hY1, hn]
            omega)
          have hsm : s < m := by have := (List.getElem?_eq_some_iff.1 hx).1; have := HNL.out; omega
          have hsm2 : ((s : Nat) : Int) < (m : Int) := by omega
          obtain ⟨bk, oo, rfl, hbk, cx⟩ := (HV.out.keeps (KK1.out.then (KK.out.then k2))).at hx
          have c6 := HCL.out i hlt wr (KK.out.then k2)
          rw [HSY.out] at c6
          have bt := B1.out.keeps (KK.out.then k2) (by simp)
          have c0 := bt.cell 0
          have c1 := bt.cell 1
          simp at c0 c1
          have K2 := Lib.hid k2
          have BT := Lib.hid bt
          clear hx hgx hY1 hn k2 bt
          go_wp2_with fail
          go_quiet ((go_at_call 76; exact Calls.quiet_of_same (HST.out _)))
          go_wp2_with fail
          rw [← HX.out]
          obtain ⟨hcx1, hcx2⟩ := cellX_pos HT.out (p := i) (by rw [HSG.out]; exact hlt)
          rw [HSG.out] at hcx2
          obtain ⟨X, hX⟩ : ∃ X, cellX G norm i = X := ⟨_, rfl⟩
          rw [hX] at HX hcx1 hcx2 ⊢
          have HCX := Lib.hid hX
          have hlog : X.log2 ≤ G := by
            have h1 := cell_in (log := G) (x := X) hcx1 (by rw [HSG.out]; exact hcx2)
            exact h1.1
          have hG9 := HT.out.g9
          have HCI := Lib.hid (cell_in (log := G) (x := X) hcx1 (by rw [HSG.out]; exact hcx2))
          have K3 := Lib.hid (K2.out.drewN nq)
          have hnq : Hid (∃ w3, w3 = wr.drewN nq) := Lib.hid ⟨_, rfl⟩
          obtain ⟨w3, hw3⟩ := hnq.out
          rw [← hw3] at K3 ⊢
          clear hX c0 c1 c6 cx hnq hw3
          go_loopw [11, 12] (fun s11 s12 wr => wr = w3 ∧ ∃ Y B : Int, s12 = .int .i64 Y ∧ s11 = .int .i64 B ∧ 1 ≤ Y ∧ Y ≤ 1024 ∧ 0 ≤ B ∧ B ≤ 9 ∧ Hid (B.toNat = Y.toNat.log2 + (G - X.log2))) (fun _ s12 _ => (intOf s12).toNat)
          case atStart => exact ⟨rfl, (X : Int), (G : Int), rfl, rfl, by omega, by omega, by omega, by omega, Lib.hid (by simp only [Int.toNat_natCast]; omega)⟩
          case round =>
            obtain ⟨rfl, Y, B, rfl, rfl, hy1, hyX, hb0, hb9, hb⟩ := hrel
            clear hlog hcx1 hcx2 hpos hx1 hx5 hY5 hsm hsm2 hcn HST HX
            by_cases hy2 : 1 < Y
            · have hlg := log2_half (x := Y.toNat) (by omega)
              have hb1 : 1 ≤ B := by have := hb.out; omega
              have HB2 : Hid ((B - 1).toNat = (Y / 2).toNat.log2 + (G - X.log2)) := Lib.hid (by
                have := hb.out
                rw [show (Y / 2).toNat = Y.toNat / 2 by omega]
                omega)
              clear hlg
              go_wp2_with fail
              go_roundw
              case rel => exact ⟨trivial, Y / 2, B - 1, by simp, by simp, by omega, by omega, by omega, by omega, HB2⟩
              case measure => simp only [intOf]; omega
            · obtain rfl : Y = 1 := by omega
              have HBE : Hid (B.toNat = G - X.log2) := Lib.hid (by have := hb.out; rw [show (1 : Int).toNat.log2 = 0 by decide] at this; omega)
              go_wp2_with fail
              have hbl := HBE.out
              obtain ⟨bN, hbN0⟩ := Int.eq_ofNat_of_zero_le hb0
              subst hbN0
              rw [Int.toNat_natCast] at hbl
              obtain ⟨-, hl2, hl3⟩ := HCI.out
              rw [HSG.out, ← hbl] at hl2 hl3
              obtain ⟨P, hP⟩ : ∃ P, X * 2 ^ bN = P := ⟨_, rfl⟩
              rw [Nat.add_mul, hP] at hl3
              rw [hP] at hl2
              have HCEL : Hid (celP G norm i = (s, bN, P - S)) := Lib.hid (by
                unfold celP
                rw [HSY.out, HCX.out, ← hbl, hP, HSG.out])
              have HSZ := Lib.hid (fun W => rsize_any (bN : Int) W (by omega) (by omega))
              rw [show ((2 : Int) ^ ((bN : Int).toNat)) = ((2 ^ bN : Nat) : Int) by simp] at HSZ
              obtain ⟨Z, hZ⟩ : ∃ Z : Int, ((2 ^ bN : Nat) : Int) = Z := ⟨_, rfl⟩
              have hPZ : (X : Int) * Z = (P : Int) := by rw [← hZ, ← hP]; simp
              rw [hZ] at HSZ
              have m3 : IntKind.i64.wrap (P : Int) = (P : Int) := IntWalk.i64_in _ ⟨by omega, by omega⟩
              obtain ⟨BI, hBI⟩ : ∃ D : Int, (P : Int) - (S : Int) = D := ⟨_, rfl⟩
              have m4 : IntKind.i64.wrap BI = BI := IntWalk.i64_in _ ⟨by omega, by omega⟩
              have HBI := Lib.hid (show BI = ((P - S : Nat) : Int) by omega)
              have HCS := Lib.hid (cellsL_succ G norm i)
              rw [HCEL.out] at HCS
              have HCI6 := Lib.hid (fun W (k : Keeps w1 W []) => (HCL.out i hlt W k))
              rw [HSY.out] at HCI6
              have k13 := KK.out.then K3.out
              have hs13 := k13.size
              have OW3 := Lib.hid (own_keeps OW.out K3.out)
              clear hP hZ hbl hl2 hl3 HCI HBE HCX K2 BT
              refine wp_region_held_drew (S := (fun w' => Keeps w1 w' [])) (by kernel_rfl) k13.drew (fun hHeld => ?_)
              refine takeL (i := 0) (v := ?_) rfl (by kernel_rfl) (by kernel_rfl) (by kernel_rfl) (fun _ _ _ h => h) (by rfl) ?_ (by assumption) ?_
              rotate_left
              · (intro w9 hSw; clear hSw; go_simp; (try with_reducible rfl))
              try simp only [Act.put, List.setIfInBounds_toArray, List.set_cons_zero, List.set_cons_succ]
              refine takeL (i := 1) (v := ?_) rfl (by kernel_rfl) (by kernel_rfl) (by kernel_rfl) (fun _ _ _ h => h) (by rfl) ?_ (by assumption) ?_
              rotate_left
              · (intro w9 hSw; clear hSw; go_simp; (try with_reducible rfl))
              try simp only [Act.put, List.setIfInBounds_toArray, List.set_cons_zero, List.set_cons_succ]
              refine takeL (i := 2) (v := ?_) rfl (by kernel_rfl) (by kernel_rfl) (by kernel_rfl) (fun _ _ _ h => h) (by rfl) ?_ (by assumption) ?_
              rotate_left
              · (intro w9 hSw; clear hSw; go_simp; (try with_reducible rfl))
              try simp only [Act.put, List.setIfInBounds_toArray, List.set_cons_zero, List.set_cons_succ]
              refine takeL (i := 3) (v := ?_) rfl (by kernel_rfl) (by kernel_rfl) (by kernel_rfl) (fun _ _ _ h => h) (by rfl) ?_ (by assumption) ?_
              rotate_left
              · (intro w9 hSw; clear hSw; go_simp; (try with_reducible rfl))
              try simp only [Act.put, List.setIfInBounds_toArray, List.set_cons_zero, List.set_cons_succ]
              refine takeL (i := 4) (v := ?_) rfl (by kernel_rfl) (by kernel_rfl) (by kernel_rfl) (fun _ _ _ h => h) (by rfl) ?_ (by assumption) ?_
              rotate_left
              · (intro w9 hSw; have q6 := HCI6.out w9 hSw; clear hSw; go_simp; (try with_reducible rfl))
              try simp only [Act.put, List.setIfInBounds_toArray, List.set_cons_zero, List.set_cons_succ]
              refine takeL (i := 5) (v := ?_) rfl (by kernel_rfl) (by kernel_rfl) (by kernel_rfl) (fun _ _ _ h => h) (by rfl) ?_ (by assumption) ?_
              rotate_left
              · (intro w9 hSw; clear hSw; go_simp; (try with_reducible rfl))
              try simp only [Act.put, List.setIfInBounds_toArray, List.set_cons_zero, List.set_cons_succ]
              refine takeL (i := 6) (v := ?_) rfl (by kernel_rfl) (by kernel_rfl) (by kernel_rfl) (fun _ _ _ h => h) (by rfl) ?_ (by assumption) ?_
              rotate_left
              · (intro w9 hSw; clear hSw; go_simp; (try with_reducible rfl))
              try simp only [Act.put, List.setIfInBounds_toArray, List.set_cons_zero, List.set_cons_succ]
              refine takeL (i := 7) (v := ?_) rfl (by kernel_rfl) (by kernel_rfl) (by kernel_rfl) (fun _ _ _ h => h) (by rfl) ?_ (by assumption) ?_
              rotate_left
              · (intro w9 hSw; clear hSw; go_simp; (try with_reducible rfl))
              try simp only [Act.put, List.setIfInBounds_toArray, List.set_cons_zero, List.set_cons_succ]
              refine takeL (i := 10) (v := ?_) rfl (by kernel_rfl) (by kernel_rfl) (by kernel_rfl) (fun _ _ _ h => h) (by rfl) ?_ (by assumption) ?_
              rotate_left
              · (intro w9 hSw; clear hSw; go_simp; (try with_reducible rfl))
              try simp only [Act.put, List.setIfInBounds_toArray, List.set_cons_zero, List.set_cons_succ]
              refine takeL (i := 11) (v := ?_) rfl (by kernel_rfl) (by kernel_rfl) (by kernel_rfl) (fun _ _ _ h => h) (by rfl) ?_ (by assumption) ?_
              rotate_left
              · (intro w9 hSw; clear hSw; go_simp; (try with_reducible rfl))
              try simp only [Act.put, List.setIfInBounds_toArray, List.set_cons_zero, List.set_cons_succ]
              refine callL (i := 8) rfl (by kernel_rfl) (fun Kont hK => ?_)
              go_simp
              refine (HSZ.out _).mono ?_
              rintro e w5 ⟨rfl, rfl⟩
              go_wp2_with fail
              refine hK.out _ _ ?_ (fun hHeld => ?_)
              · exact k13.drew
              clear hK Kont
              refine takeL (i := 9) (v := ?_) rfl (by kernel_rfl) (by kernel_rfl) (by kernel_rfl) (fun _ _ _ h => h) (by rfl) ?_ (by assumption) ?_
              rotate_left
              · (intro w9 hSw; clear hSw; go_simp; (try with_reducible rfl))
              try simp only [Act.put, List.setIfInBounds_toArray, List.set_cons_zero, List.set_cons_succ]
              refine takeL (i := 12) (v := ?_) rfl (by kernel_rfl) (by kernel_rfl) (by kernel_rfl) (fun _ _ _ h => h) (by rfl) ?_ (by assumption) ?_
              rotate_left
              · (intro w9 hSw; clear hSw; go_simp; (try with_reducible rfl))
              try simp only [Act.put, List.setIfInBounds_toArray, List.set_cons_zero, List.set_cons_succ]
              refine takeL (i := 13) (v := ?_) rfl (by kernel_rfl) (by kernel_rfl) (by kernel_rfl) (fun _ _ _ h => h) (by rfl) ?_ (by assumption) ?_
              rotate_left
              · (intro w9 hSw; clear hSw; go_simp; (try with_reducible rfl))
              try simp only [Act.put, List.setIfInBounds_toArray, List.set_cons_zero, List.set_cons_succ]
              refine callL (i := 14) rfl (by kernel_rfl) (fun Kont hK => ?_)
              go_simp
              refine hK.out _ _ ?_ (fun hHeld => ?_)
              · exact hHeld.alloc _
              clear hK Kont
              rw [HBI.out]
              refine callL (i := 15) rfl (by kernel_rfl) (fun Kont hK => ?_)
              refine step_appC rfl _ _ 206 rfl w1.heap.size i0 Tryz.underlying206 hi hz0 hz1 hz2 (.slice a i c) i (cellsL G norm i) (s, bN, P - S) _ rfl rfl (Blk.new _ _ _) (own_keeps OW3.out (((Keeps.refl _ []).drew).alloc _)) (by omega) (by simp; omega) ?_
              intro a3 c3 w5 own3 k3
              refine hK.out _ _ ?_ (fun hHeld => ?_)
              · exact (k13.drew.alloc _).trans k3 (fun j hj hl => by have := young OW.out j hj; omega)
              clear hK Kont
              refine takeL (i := 16) (v := ?_) rfl (by kernel_rfl) (by kernel_rfl) (by kernel_rfl) (fun _ _ _ h => h) (by rfl) ?_ (by assumption) ?_
              rotate_left
              · (intro w9 hSw; clear hSw; go_simp; (try with_reducible rfl))
              try simp only [Act.put, List.setIfInBounds_toArray, List.set_cons_zero, List.set_cons_succ]
              refine wpAnyH_done (by kernel_rfl) ?_ _
              rw [← HCS.out] at own3
              go_wp2_with fail
              go_roundw
              case rel => exact ⟨i + 1, c3, a3, by omega, by go_num, rfl, own3, hHeld⟩
              case measure => simp [intOf]; omega
    · obtain rfl : i = S := by omega
      have hii : ¬ (i : Int) < (i : Int) := by omega
      go_wp2_with fail
      go_ret2
      exact ⟨a, c, rfl, own_base OW.out (by omega), KK1.out.then KK.out⟩


end Go.Proofs.YtcmagccfagijlaaGreat
