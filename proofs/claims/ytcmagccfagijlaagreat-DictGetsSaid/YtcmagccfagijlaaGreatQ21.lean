/-
  Walks over package cells: Build. (Printed by mkCe.py.)
-/
import Derived.Test.YtcmagccfagijlaaGreatQ20
namespace Go.Proofs.YtcmagccfagijlaaGreat
set_option linter.unusedVariables false
set_option linter.unusedSimpArgs false
set_option linter.unusedSectionVars false
open Go.RowKit

theorem cel_size : (Tryz.prog.info? 212).map (·.size) = some 3 := by kernel_rfl
theorem load_cel {w : World} {b : Nat} {x y z : Value} (h : Blk w b #[x, y, z] 212) : (loadVar 212 ⟨b, 0, none⟩).run Tryz.prog w = .ok (.agg #[x, y, z]) w :=
  load_blk h Tryz.underlying212 rfl (by rw [cel_size]; rfl)

/-- How the closure ends: the cell of the number X = states + what has come of the symbol. -/
def CelEnd (w : World) (M n : Nat) (l : List Nat) (s : Nat) (c : Cel) (e : Ending) (w' : World) : Prop :=
  e = .returned (.agg #[.int .i64 (c.1 : Int), .int .i64 (c.2.1 : Int), .int .i64 (c.2.2 : Int)]) ∧ MapI w' M (n + 1) (hadF (l ++ [s])) ∧ Keeps w w' [M]

set_option maxRecDepth 100000 in
set_option maxHeartbeats 2000000 in
theorem build1_any (bT bh bp M n g s : Nat) (x : Int) (nv : Value) (norm : List Int) (pa : Option Addr) (pc : Nat) (l : List Nat) (w : World) (hbT : Blk w bT #[.int .i64 (g : Int), nv] 27) (hnv : RdI .i64 w nv norm) (hnl : norm.length ≤ 256)
    (hbh : Blk w bh #[.map (some M)] 256) (hm : MapI w M n (hadF l)) (hbp : Blk w bp #[.slice pa (2 ^ g) pc] 25) (hx : norm[s]? = some x) (hx1 : -1 ≤ x) (hn : n ≤ 1000) (hg : g ≤ 9)
    (hX1 : 1 ≤ (stN x).toNat + l.count s) (hX2 : (stN x).toNat + l.count s < 2 * 2 ^ g) (hMT : M ≠ bT) (hMp : M ≠ bp) :
    Calls Tryz.prog 211 #[.int .i64 s, .pointer (some ⟨bT, 0, none⟩), .pointer (some ⟨bh, 0, none⟩), .pointer (some ⟨bp, 0, none⟩)] w
      (CelEnd w M n l s (s, g - ((stN x).toNat + l.count s).log2, ((stN x).toNat + l.count s) * 2 ^ (g - ((stN x).toNat + l.count s).log2) - 2 ^ g)) := by
  obtain ⟨A0, nn, cp0, rfl, hnn, -⟩ := hnv.form
  have hs := (List.getElem?_eq_some_iff.1 hx).1
  obtain ⟨bb, o, rfl, hbb, hcx⟩ := hnv.at hx
  have hcap := hnv.cap
  have hsI : (s : Int) < (nn : Int) := by omega
  have hS9 : 2 ^ g ≤ 512 := by
    have := Nat.pow_le_pow_right (n := 2) (by decide) hg
    rwa [show (2 : Nat) ^ 9 = 512 by decide] at this
  obtain ⟨Sg, hSg⟩ : ∃ S, 2 ^ g = S := ⟨_, rfl⟩
  obtain ⟨k, hk⟩ : ∃ k, l.count s = k := ⟨_, rfl⟩
  obtain ⟨X, hX⟩ : ∃ X, (stN x).toNat + k = X := ⟨_, rfl⟩
  have hst := stN_nonneg hx1
  have hmx := stN_max hx1
  obtain ⟨N, hN⟩ : ∃ N : Int, -x = N := ⟨_, rfl⟩
  rw [hN] at hmx
  obtain ⟨T, hT⟩ : ∃ T : Int, stN x = T := ⟨_, rfl⟩
  rw [hk, hX] at hX1 hX2 ⊢
  rw [hSg] at hX2 hS9 ⊢
  rw [hT] at hst hmx hX
  have hxe : x ≤ 1024 := by
    have : stN x = x ∨ x = -1 := by unfold stN; split <;> omega
    omega
  have hwN : wrap64 N = N := IntWalk.wrap64_in _ ⟨by omega, by omega⟩
  obtain ⟨XI, hXI⟩ : ∃ D : Int, T + (k : Int) = D := ⟨_, rfl⟩
  have hXX : XI = (X : Int) := by omega
  obtain ⟨kI, hkI⟩ : ∃ D : Int, (k : Int) + 1 = D := ⟨_, rfl⟩
  have hwk : wrap64 kI = kI := IntWalk.wrap64_in _ ⟨by omega, by omega⟩
  have hwX : wrap64 XI = XI := IntWalk.wrap64_in _ ⟨by omega, by omega⟩
  have k0 := (Keeps.refl w []).alloc (.cells #[.int .i64 0, .int .i64 0, .int .i64 0] 212)
  have b5 := Blk.new w #[.int .i64 0, .int .i64 0, .int .i64 0] 212
  have bT0 := hbT.keeps k0 (by simp)
  have bh0 := hbh.keeps k0 (by simp)
  have bp0 := hbp.keeps k0 (by simp)
  have mp0 := hm.keeps k0 (by simp)
  have hcx0 := (k0.cell (p := ⟨bb, o + s, none⟩) hbb (by simp)).trans hcx
  have hMl := hm.lt
  have hTl := hbT.lt
  have hpl := hbp.lt
  have hlk := mp0.look (q := (s : Int)) (ik_small (by omega) (by omega))
  rw [hadF_get, hk] at hlk
  obtain ⟨w2, hu, mp2, g2⟩ := mp0.update (q := (s : Int)) (ik_small (by omega) (by omega)) kI (ik_small (by omega) (by omega)) (by unfold maxLen; omega)
  have hsn := hadF_snoc l s
  rw [hk, hkI] at hsn
  rw [hsn] at mp2
  rw [hSg] at bp0
  have k2 := Keeps.of_grown (S := [M]) g2 (fun j hj => by cases hj; simp)
  have bT2 := bT0.keeps k2 (by simp; omega)
  have bp2 := bp0.keeps k2 (by simp; omega)
  have b52 := b5.keeps k2 (by simp; omega)
  have kk2 : Keeps w w2 [M] := (k0.mono (S' := [M]) (by simp)).trans k2 (fun j hj _ => hj)
  have MP2 := Lib.hid mp2
  have B52 := Lib.hid b52
  have KK2 := Lib.hid kk2
  obtain ⟨lg, hlg⟩ : ∃ lg, X.log2 = lg := ⟨_, rfl⟩
  have HL := Lib.hid (fun w1 => Tryz.bits_Len (X : Int) w1 (by omega) (by omega))
  simp only [Int.toNat_natCast] at HL
  rw [bitLen_log hX1 (by omega), hlg] at HL
  have hlgg : lg ≤ g := by
    rw [← hlg]
    exact (cell_in hX1 (by rw [hSg]; exact hX2)).1
  have hbase := (cell_in (log := g) hX1 (by rw [hSg]; exact hX2)).2
  rw [hlg, hSg] at hbase
  rw [hlg]
  obtain ⟨b, hb⟩ : ∃ b, g - lg = b := ⟨_, rfl⟩
  rw [hb] at hbase ⊢
  have hb9 : b ≤ 9 := by omega
  obtain ⟨Pb, hPb⟩ : ∃ P, X * 2 ^ b = P := ⟨_, rfl⟩
  have hPI : (X : Int) * 2 ^ b = (Pb : Int) := by rw [← hPb]; simp
  rw [hPb] at hbase ⊢
  have hPl : Pb ≤ 2048 := by
    have := hbase.2
    rw [Nat.add_mul, hPb] at this
    omega
  obtain ⟨BI, hBI⟩ : ∃ D : Int, (Pb : Int) - (Sg : Int) = D := ⟨_, rfl⟩
  have HBI := Lib.hid (show BI = ((Pb - Sg : Nat) : Int) by omega)
  obtain ⟨G1, hG1⟩ : ∃ D : Int, (g : Int) + 1 = D := ⟨_, rfl⟩
  obtain ⟨L1, hL1⟩ : ∃ D : Int, (lg : Int) + 1 = D := ⟨_, rfl⟩
  have hGL : G1 - L1 = (b : Int) := by omega
  have m1 : IntKind.i64.wrap G1 = G1 := by simp [IntKind.wrap, IntKind.signed, IntKind.bits]; omega
  have m2 : IntKind.i64.wrap (b : Int) = (b : Int) := by simp [IntKind.wrap, IntKind.signed, IntKind.bits]; omega
  have m3 : IntKind.i64.wrap (Pb : Int) = (Pb : Int) := by simp [IntKind.wrap, IntKind.signed, IntKind.bits]; omega
  have m4 : IntKind.i64.wrap BI = BI := by simp [IntKind.wrap, IntKind.signed, IntKind.bits]; omega
  have hXm : (X : Int) % 18446744073709551616 = (X : Int) := by omega
  have hmod : XI % 18446744073709551616 = XI := by omega
  have e0 := bT0.cell 0
  have e1 := bT0.cell 1
  simp at e0 e1
  obtain ⟨h0, -⟩ := bh0.one
  have HXX := Lib.hid hXX
  clear hx hcx hnn hnv hbT hbh hbp hm k0 b5 bT0 bh0 mp0 mp2 b52 kk2 g2 hsn hk hX hT hst hXX hlg hlgg hbase hb hPb bp0 hSg hbb hX2 hxe
  go_enter Tryz.func211, Tryz.ntmps211
  go_wp2_with fail
  rw [hwX, HXX.out]
  have q0 := bT2.cell 0
  simp at q0
  clear hlk hu hcx0 e0 e1 h0 hmod hwX hwN hwk
  go_quiet ((go_at_call 163; exact Calls.quiet_of_same (HL.out _)))
  go_wp2_with fail
  clear q0
  refine wp_region_held_drew (S := (fun w' => Blk w' bp #[.slice pa Sg pc] 25)) (by kernel_rfl) (bp2.drewN nq).drew (fun hHeld => ?_)
  refine takeL (i := 0) (v := ?_) rfl (by kernel_rfl) (by kernel_rfl) (by kernel_rfl) (fun _ _ _ h => h) (by rfl) ?_ (by assumption) ?_
  rotate_left
  · (intro w9 hSw; obtain ⟨q0, -⟩ := hSw.one; clear hSw; go_simp; (try with_reducible rfl))
  try simp only [Act.put, List.setIfInBounds_toArray, List.set_cons_zero, List.set_cons_succ]
  refine takeL (i := 1) (v := ?_) rfl (by kernel_rfl) (by kernel_rfl) (by kernel_rfl) (fun _ _ _ h => h) (by rfl) ?_ (by assumption) ?_
  rotate_left
  · (intro w9 hSw; obtain ⟨q0, -⟩ := hSw.one; clear hSw; go_simp; (try with_reducible rfl))
  try simp only [Act.put, List.setIfInBounds_toArray, List.set_cons_zero, List.set_cons_succ]
  refine takeL (i := 2) (v := ?_) rfl (by kernel_rfl) (by kernel_rfl) (by kernel_rfl) (fun _ _ _ h => h) (by rfl) ?_ (by assumption) ?_
  rotate_left
  · (intro w9 hSw; obtain ⟨q0, -⟩ := hSw.one; clear hSw; go_simp; (try with_reducible rfl))
  try simp only [Act.put, List.setIfInBounds_toArray, List.set_cons_zero, List.set_cons_succ]
  refine takeL (i := 3) (v := ?_) rfl (by kernel_rfl) (by kernel_rfl) (by kernel_rfl) (fun _ _ _ h => h) (by rfl) ?_ (by assumption) ?_
  rotate_left
  · (intro w9 hSw; obtain ⟨q0, -⟩ := hSw.one; clear hSw; go_simp; (try with_reducible rfl))
  try simp only [Act.put, List.setIfInBounds_toArray, List.set_cons_zero, List.set_cons_succ]
  refine takeL (i := 4) (v := ?_) rfl (by kernel_rfl) (by kernel_rfl) (by kernel_rfl) (fun _ _ _ h => h) (by rfl) ?_ (by assumption) ?_
  rotate_left
  · (intro w9 hSw; obtain ⟨q0, -⟩ := hSw.one; clear hSw; go_simp; (try with_reducible rfl))
  try simp only [Act.put, List.setIfInBounds_toArray, List.set_cons_zero, List.set_cons_succ]
  refine takeL (i := 5) (v := ?_) rfl (by kernel_rfl) (by kernel_rfl) (by kernel_rfl) (fun _ _ _ h => h) (by rfl) ?_ (by assumption) ?_
  rotate_left
  · (intro w9 hSw; obtain ⟨q0, -⟩ := hSw.one; clear hSw; go_simp; (try with_reducible rfl))
  try simp only [Act.put, List.setIfInBounds_toArray, List.set_cons_zero, List.set_cons_succ]
  refine takeL (i := 6) (v := ?_) rfl (by kernel_rfl) (by kernel_rfl) (by kernel_rfl) (fun _ _ _ h => h) (by rfl) ?_ (by assumption) ?_
  rotate_left
  · (intro w9 hSw; obtain ⟨q0, -⟩ := hSw.one; clear hSw; go_simp; (try with_reducible rfl))
  try simp only [Act.put, List.setIfInBounds_toArray, List.set_cons_zero, List.set_cons_succ]
  refine takeL (i := 7) (v := ?_) rfl (by kernel_rfl) (by kernel_rfl) (by kernel_rfl) (fun _ _ _ h => h) (by rfl) ?_ (by assumption) ?_
  rotate_left
  · (intro w9 hSw; obtain ⟨q0, -⟩ := hSw.one; clear hSw; go_simp; (try with_reducible rfl))
  try simp only [Act.put, List.setIfInBounds_toArray, List.set_cons_zero, List.set_cons_succ]
  refine takeL (i := 8) (v := ?_) rfl (by kernel_rfl) (by kernel_rfl) (by kernel_rfl) (fun _ _ _ h => h) (by rfl) ?_ (by assumption) ?_
  rotate_left
  · (intro w9 hSw; obtain ⟨q0, -⟩ := hSw.one; clear hSw; go_simp; (try with_reducible rfl))
  try simp only [Act.put, List.setIfInBounds_toArray, List.set_cons_zero, List.set_cons_succ]
  refine callL (i := 9) rfl (by kernel_rfl) (fun Kont hK => ?_)
  refine step_storeB rfl 212 _ _ rfl w.heap.size #[.int .i64 (s : Int), .int .i64 (b : Int), .int .i64 BI] rfl rfl _ _ (B52.out.drewN nq).drew cel_size rfl (by simp [Value.oneCell']) ?_
  intro W9 b9 k9
  refine hK.out _ _ ?_ (fun hHeld => ?_)
  · exact hHeld.keeps k9 (by simp; omega)
  clear hK Kont
  refine wpAnyH_done (by kernel_rfl) ?_ _
  go_wp2_with fail
  refine bodyPost_ret (v := .agg #[.int .i64 (s : Int), .int .i64 (b : Int), .int .i64 BI]) (res_cell rfl rfl (load_cel b9)) rfl ⟨by rw [HBI.out], ?_, ?_⟩
  · exact MP2.out.keeps (((Keeps.refl w2 []).drewN nq).drew.mono (S' := [w.heap.size]) (by simp) |>.trans k9 (fun j hj _ => hj)) (by simp; omega)
  · exact (((KK2.out.drewN nq).drew).trans k9 (fun j hj hl => by have := List.mem_singleton.1 hj; omega))

theorem Tryz.infoCel : (Tryz.prog.info? 212).map (fun i => (i.zero, i.size, i.bytes)) = some (some (.agg #[.int .i64 0, .int .i64 0, .int .i64 0]), 3, 24) := by kernel_rfl

/-- append of one cell, just laid, to a slice of the call's own. -/
theorem wpList_appC {P : Program} {w : World} {ops : Array Oper} {rest : List Oper} {o : Oper} {a : Act} {Q : Exit → Act → World → Prop} (hg : o.guard = none) (s x : Operand) (t : TypeId)
    (ho : o.op = .call { callee := .builtin .append, args := #[s, x], argTypes := #[t, t] })
    (base : Nat) (i : TypeInfo) (ht : P.underlying t = some (.slice 212)) (hi : P.info? 212 = some i) (hz : i.zero = some (.agg #[.int .i64 0, .int .i64 0, .int .i64 0])) (hsize : i.size = 3) (hby : i.bytes = 24)
    (v : Value) (n : Nat) (L : List Cel) (c : Cel) (B : Nat) (hs : a.eval s = v) (hx : a.eval x = .slice (some ⟨B, 0, none⟩) 1 1) (hB : w.heap.size = B)
    (hown : w.ownsRow base 212 3 v n (cellsW rowC L)) (h63 : n ≤ 10000000) (hbase : base ≤ w.heap.size)
    (h : ∀ a' c' w', w'.ownsRow base 212 3 (.slice a' (n + 1) c') (n + 1) (cellsW rowC (L ++ [c])) → Keeps w w' (match v.ownBlock with | some g => [g] | none => []) → wpList P ops Q rest (a.put o.dst (.slice a' (n + 1) c')) w') :
    wpList P ops Q (o :: rest) a (w.alloc (.cells #[.int .i64 (c.1 : Int), .int .i64 (c.2.1 : Int), .int .i64 (c.2.2 : Int)] 212)) := by
  subst hB
  have hb := Blk.new w #[.int .i64 (c.1 : Int), .int .i64 (c.2.1 : Int), .int .i64 (c.2.2 : Int)] 212
  refine wpList_append_own _ hg s x t ho base _ i (.agg #[.int .i64 0, .int .i64 0, .int .i64 0]) 3 24 ht hi hz hsize hby rfl (by decide) v n (cellsW rowC L) hs (own_keeps hown ((Keeps.refl w []).alloc _)) _ 1 1 (rowC c) hx rfl (fun j u hj => ?_) (rowC_one c) (by unfold maxLen; omega) (by omega) (by simp; omega) ?_
  · have e : (⟨w.heap.size, 0, none⟩ : Addr).add j = ⟨w.heap.size, j, none⟩ := by simp [Addr.add]; omega
    rw [e, hb.cell]
    simpa [rowC] using hj
  intro v3 w3 h3 g3 _
  obtain ⟨a3, c3, rfl⟩ := own_form h3
  refine h a3 c3 w3 ?_ ?_
  · have : cellsW rowC L ++ rowC c = cellsW rowC (L ++ [c]) := by
      rw [cellsW_append rowC_len]
      show _ = _ ++ (rowC c ++ [])
      rw [List.append_nil]
    rw [this] at h3
    exact h3
  · exact ((Keeps.refl w _).alloc _).trans (Keeps.of_grown g3 (fun k hk => by rw [hk]; simp)) (fun j hj _ => hj)

theorem build_bad (g : Int) (v : Value) (norm : List Int) (w : World) (hv : RdI .i64 w v norm) (hn : norm.length ≤ 1000000) (hb : ∀ x ∈ norm, -9223372036854775808 ≤ x ∧ x ≤ 9223372036854775807) (hok : okN g norm 256 9 = false) :
    Calls Tryz.prog 187 #[.agg #[.int .i64 g, v]] w fun e w' => e = .returned (.tuple #[.slice none 0 0, .int .i64 13]) ∧ Keeps w w' [] := by
  obtain ⟨A0, n, cp0, rfl, hnl, -⟩ := hv.form
  have k0 := (Keeps.refl w []).alloc (.cells #[.int .i64 g, .slice A0 n cp0] 27)
  have HC := Lib.hid (spread_bad g _ norm _ (hv.keeps k0) hn hb hok)
  clear hv hnl hok hb
  go_enter Tryz.func187, Tryz.ntmps187
  go_wp2_with (go_at_call 210; go_loud (refine HC.out.mono ?_; rintro e w1 ⟨rfl, k1⟩))
  go_ret2
  exact ⟨rfl, (k0.then k1).alloc _⟩

set_option maxRecDepth 100000 in
set_option maxHeartbeats 2000000 in
theorem build_ok (g : Nat) (v : Value) (norm : List Int) (w : World) (hv : RdI .i64 w v norm) (hb : ∀ x ∈ norm, -9223372036854775808 ≤ x ∧ x ≤ 9223372036854775807) (hok : TblOk g norm) (hok' : okN (g : Int) norm 256 9 = true) :
    Calls Tryz.prog 187 #[.agg #[.int .i64 (g : Int), v]] w fun e w' => ∃ a c, e = .returned (.tuple #[.slice a (2 ^ g) c, .int .i64 0]) ∧ w'.ownsRow w.heap.size 212 3 (.slice a (2 ^ g) c) (2 ^ g) (cellsW rowC (cellsL g norm (2 ^ g))) ∧ Keeps w w' [] := by
  have hmm := @run_makeMap Tryz.prog
  have hmf : ∀ (fn : Fn) (first cap : Array Value) (w : World), (Instr.makeFunc fn first cap).run Tryz.prog w = .ok (.func fn first cap) w := fun _ _ _ _ => rfl
  obtain ⟨i0, hi, hz0, hz1, hz2⟩ := info_parts Tryz.infoCel
  obtain ⟨A0, n, cp0, rfl, hnl, -⟩ := hv.form
  have k0 := (Keeps.refl w []).alloc (.cells #[.int .i64 (g : Int), .slice A0 n cp0] 27)
  have b0 := Blk.new w #[.int .i64 (g : Int), .slice A0 n cp0] 27
  have HC := Lib.hid (spread_ok g _ norm _ (hv.keeps k0) hb hok hok')
  have HV := Lib.hid hv
  have HOK := Lib.hid hok
  have HN := Lib.hid hnl
  obtain ⟨hS1, hS2⟩ := hok.size
  have hn256 : n ≤ 256 := by have := hok.len; omega
  have hg9 := hok.g9
  have HB1 := Lib.hid (fun bT bh bp M nn g s x nv norm pa pc l w => build1_any bT bh bp M nn g s x nv norm pa pc l w)
  have HPL : Hid (∀ t, t < 2 ^ g → (castL (placesL g norm))[t]? = some ((placeN g norm t : Nat) : Int)) := fun t ht => by
    have h3 := placesL_get (g := g) (p := t) (norm := norm) ht
    simp [castL, h3]
  have HLEN : Hid ((placesL g norm).length = 2 ^ g) := placesL_len g norm
  obtain ⟨S, hSe⟩ : ∃ S, 2 ^ g = S := ⟨_, rfl⟩
  rw [hSe] at HC hS1 hS2 HPL HLEN ⊢
  have HSE := Lib.hid hSe
  clear hv hnl hok' hb hok hSe
  go_enter Tryz.func187, Tryz.ntmps187
  go_wp2_with (go_at_call 210; go_loud (refine HC.out.mono ?_; rintro e w1 ⟨O, hO, rfl, row1, k1⟩))
  have b1 := b0.keeps k1 (by simp)
  have kk1 := k0.then k1
  have hOl := row1.lt
  have hTl := b1.lt
  obtain ⟨H, hH⟩ : ∃ H, w1.heap.size = H := ⟨_, rfl⟩
  have q4 := ((Blk.new w1 #[.slice (some ⟨O, 0, none⟩) S S] 25).alloc (.map #[] 0)).alloc (.cells #[.map (some (w1.heap.size + 1))] 256)
  have qm := (MapI.made (w1.alloc (.cells #[.slice (some ⟨O, 0, none⟩) S S] 25))).alloc (.cells #[.map (some (w1.heap.size + 1))] 256)
  have q6 := Blk.new ((w1.alloc (.cells #[.slice (some ⟨O, 0, none⟩) S S] 25)).alloc (.map #[] 0)) #[.map (some (w1.heap.size + 1))] 256
  have ka := (((Keeps.refl w1 []).alloc (.cells #[.slice (some ⟨O, 0, none⟩) S S] 25)).alloc (.map #[] 0)).alloc (.cells #[.map (some (w1.heap.size + 1))] 256)
  have b2 := b1.keeps ka (by simp)
  have row2 := row1.keeps ka (by simp)
  have kk2 := kk1.then ka
  simp only [World.size_alloc] at q4 qm q6
  rw [hH] at hOl hTl q4 qm q6 ka b2 row2 kk2 ⊢
  have hsz : (((w1.alloc (.cells #[.slice (some ⟨O, 0, none⟩) S S] 25)).alloc (.map #[] 0)).alloc (.cells #[.map (some (H + 1))] 256)).heap.size = H + 3 := by simp; omega
  generalize (((w1.alloc (.cells #[.slice (some ⟨O, 0, none⟩) S S] 25)).alloc (.map #[] 0)).alloc (.cells #[.map (some (H + 1))] 256)) = W0 at *
  rw [← hadF_nil] at qm
  have hwO : w.heap.size < O := by have := hO; simp at this; omega
  have HR0 := Lib.hid (show _ ∧ _ ∧ _ ∧ _ ∧ _ ∧ _ ∧ _ from ⟨b2, row2, q4, qm, q6, kk2, hsz⟩)
  clear b0 b1 k0 k1 kk1 row1 row2 q4 qm q6 ka b2 kk2 hH hsz hmm HC hO
  go_loopw [8, 23] (fun s8 s23 wr => ∃ (i c : Nat) (a : Option Addr), i ≤ S ∧ s23 = .int .i64 i ∧ s8 = .slice a i c ∧ Blk wr w.heap.size #[.int .i64 (g : Int), .slice A0 n cp0] 27 ∧ RowI wr O S S (castL (placesL g norm)) ∧ Blk wr H #[.slice (some ⟨O, 0, none⟩) S S] 25 ∧
      MapI wr (H + 1) i (hadF ((placesL g norm).take i)) ∧ Blk wr (H + 1 + 1) #[.map (some (H + 1))] 256 ∧ Keeps w wr [] ∧ wr.ownsRow (H + 3) 212 3 (.slice a i c) i (cellsW rowC (cellsL g norm i)) ∧ H + 3 ≤ wr.heap.size) (fun _ s23 _ => S - (intOf s23).toNat)
  case atStart =>
    obtain ⟨x1, x2, x3, x4, x5, x6, x7⟩ := HR0.out
    exact ⟨0, 0, none, Nat.zero_le _, rfl, rfl, x1, x2, x3, x4, x5, x6, World.ownsRow_nil _ _ _ _, by omega⟩
  case round =>
    clear HR0
    obtain ⟨i, c, a, hi', rfl, rfl, bT, row, b4, mp, b6, kk, own, hsz⟩ := hrel
    by_cases hlt : i < S
    · have hiS : (i : Int) < (S : Int) := by omega
      have hget := HPL.out i hlt
      have ci := row.at hget
      have hyl : placeN g norm i < norm.length := placeN_lt hg9 HOK.out.pos
      obtain ⟨x, hx, hxg⟩ := placeN_norm (p := i) HOK.out
      have hXP := cellX_pos HOK.out (p := i) (by rw [HSE.out]; exact hlt)
      have hXe : cellX g norm i = (stN x).toNat + ((placesL g norm).take i).count (placeN g norm i) := by unfold cellX; rw [hxg]
      have hcel : celP g norm i = (placeN g norm i, g - (cellX g norm i).log2, cellX g norm i * 2 ^ (g - (cellX g norm i).log2) - 2 ^ g) := rfl
      have hx1 := HOK.out.low x (List.mem_of_getElem? hx)
      have hb1 := HB1.out w.heap.size (H + 1 + 1) H (H + 1) i g (placeN g norm i) x (.slice A0 n cp0) norm (some ⟨O, 0, none⟩) S ((placesL g norm).take i) wr bT (HV.out.keeps kk) HOK.out.len b6 mp (by rw [HSE.out]; exact b4) hx hx1 (by omega) hg9 (by rw [← hXe]; exact hXP.1) (by rw [← hXe]; exact hXP.2) (by omega) (by omega)
      rw [← hXe, ← hcel] at hb1
      have hpl := placesL_get (g := g) (p := i) (norm := norm) (by rw [HSE.out]; exact hlt)
      have htk : (placesL g norm).take i ++ [placeN g norm i] = (placesL g norm).take (i + 1) := by
        rw [List.take_add_one, hpl]; rfl
      have HCALL := Lib.hid hb1
      have HCS := Lib.hid (cellsL_succ g norm i)
      obtain ⟨C, hC⟩ : ∃ C, celP g norm i = C := ⟨_, rfl⟩
      rw [hC] at HCALL HCS
      obtain ⟨sy, hsy⟩ : ∃ s, placeN g norm i = s := ⟨_, rfl⟩
      rw [hsy] at ci HCALL htk
      have HTK := Lib.hid htk
      have HREL := Lib.hid (show _ ∧ _ ∧ _ ∧ _ from ⟨bT, row, b4, b6⟩)
      have OW := Lib.hid own
      have YG := Lib.hid (young own)
      clear hget hyl hx hxg hXP hXe hcel hx1 hb1 hpl htk hC hsy bT row b4 mp b6 own
      go_wp2_with fail
      refine HCALL.out.mono ?_
      rintro e w2 ⟨rfl, mp2, k2⟩
      rw [HTK.out] at mp2
      have hM2 : Keeps w w2 [] := kk.trans k2 (fun j hj hl => by have := List.mem_singleton.1 hj; omega)
      have OW2 := Lib.hid (own_old OW.out k2 (fun x hx hm => by have := List.mem_singleton.1 hm; have := (OW.out.lt x hx).1; omega))
      have MP2 := Lib.hid mp2
      have hs2 := k2.size
      clear mp2 ci
      go_wp2_with (at_builtin; go_loud (refine wpList_appC (w := w2) rfl _ _ 206 rfl (H + 3) i0 Tryz.underlying206 hi hz0 hz1 hz2 (.slice a i c) i (cellsL g norm i) C _ rfl rfl rfl OW2.out (by omega) (by omega) ?_; intro a3 c3 w3 own3 k3))
      have hk23 : ∀ x, x < H + 3 → x ∉ (match Value.ownBlock (.slice a i c) with | some g => [g] | none => []) := fun x hx hm => by have := YG.out x hm; omega
      have OW3 := Lib.hid own3
      have K3 := Lib.hid k3
      have hs3 := k3.size
      clear own3 k3
      go_roundw
      case rel =>
        obtain ⟨x1, x2, x3, x4⟩ := HREL.out
        refine ⟨i + 1, c3, a3, by omega, by go_num, rfl, (x1.keeps k2 (by simp; omega)).keeps K3.out (hk23 _ (by omega)), (x2.keeps k2 (by simp; omega)).keeps K3.out (hk23 _ (by omega)), (x3.keeps k2 (by simp)).keeps K3.out (hk23 _ (by omega)), MP2.out.keeps K3.out (hk23 _ (by omega)), (x4.keeps k2 (by simp)).keeps K3.out (hk23 _ (by omega)), hM2.trans K3.out (fun j hj hl => by have := YG.out j hj; omega), ?_, by omega⟩
        rw [HCS.out]
        exact OW3.out
      case measure => simp [intOf]; omega
    · have hiS : decide ((i : Int) < (S : Int)) = false := decide_eq_false (by omega)
      have hiN : decide (i < S) = false := decide_eq_false (by omega)
      obtain rfl : i = S := by omega
      have OW := Lib.hid own
      have KK := Lib.hid kk
      clear bT row b4 mp b6 own kk
      go_wp2_with fail
      go_ret2
      exact ⟨a, c, rfl, own_base OW.out (by omega), KK.out⟩


end Go.Proofs.YtcmagccfagijlaaGreat
