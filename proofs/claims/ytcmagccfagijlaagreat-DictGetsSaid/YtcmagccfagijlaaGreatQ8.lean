/-
  A cursor over bytes: Byte, Bytes. (Printed by mkVI.py.)
-/
import Derived.Test.YtcmagccfagijlaaGreatQ6
import Derived.Test.YtcmagccfagijlaaGreatQ1
import Derived.Test.YtcmagccfagijlaaGreatQ2
namespace Go.Proofs.YtcmagccfagijlaaGreat
set_option linter.unusedVariables false
set_option linter.unusedSimpArgs false
set_option linter.unusedSectionVars false
open Go.RowKit

theorem slice_part {w0 : World} {v : Value} {B : List Int} (h : RdI .u8 w0 v B) {i j : Nat} (hij : i ≤ j) (hj : j ≤ B.length) :
    ∃ r, (∀ w, (Instr.slice 22 v (some (.int .i64 (i : Int))) (some (.int .i64 (j : Int))) none).run Tryz.prog w = .ok r w) ∧ RdI .u8 w0 r ((B.drop i).take (j - i)) ∧
      (∀ (ad : Addr) (n' c' : Nat), r = .slice (some ad) n' c' → 0 < n' → ∃ ad' n c, v = .slice (some ad') n c ∧ 0 < n ∧ ad.block = ad'.block) := by
  obtain ⟨i0, hi, hz0, hz1, hz2⟩ := info_parts Tryz.infoByte
  obtain ⟨ad, n, c, rfl, hn, hh⟩ := h.form
  have hcap := h.cap
  have run : ∀ w, (Instr.slice 22 (.slice ad n c) (some (.int .i64 (i : Int))) (some (.int .i64 (j : Int))) none).run Tryz.prog w = .ok (.slice (if i < c then ad.map (·.add i) else ad) (j - i) (c - i)) w := by
    intro w
    have a1 : i ≤ c := by omega
    have a2 : j ≤ c := by omega
    cases ad with
    | none =>
      obtain ⟨rfl, rfl, rfl⟩ := h.nilcap
      obtain rfl : i = 0 := by simp at hn; omega
      obtain rfl : j = 0 := by omega
      simp [Instr.slice, Instr.sliceBounds, Instr.sliceBound, asIntOf, run_underlying Tryz.underlying22, go_sem, sizeOf, typeInfo, hi, hz1]
    | some a =>
      by_cases hic : i < c
      · have a3 : ¬ c = i := by omega
        simp [Instr.slice, Instr.sliceBounds, Instr.sliceBound, asIntOf, run_underlying Tryz.underlying22, go_sem, sizeOf, typeInfo, hi, hz1, hij, a2, a3, hic]
      · obtain rfl : i = c := by omega
        obtain rfl : i = j := by omega
        simp [Instr.slice, Instr.sliceBounds, Instr.sliceBound, asIntOf, run_underlying Tryz.underlying22, go_sem, sizeOf, typeInfo, hi, hz1]
  refine ⟨_, run, ?_, ?_⟩
  rotate_left
  · intro a n' c' he h0
    injection he with g1 g2 g3
    cases ad with
    | none => exfalso; split at g1 <;> simp at g1
    | some A =>
      refine ⟨A, n, c, rfl, by omega, ?_⟩
      split at g1 <;> · simp at g1; rw [← g1]; first | done | (simp [Addr.add]; split <;> rfl)
  by_cases he : j - i = 0
  · rw [he, List.take_zero]
    cases ad with
    | none =>
      obtain ⟨rfl, rfl, rfl⟩ := h.nilcap
      have : (0 : Nat) - i = 0 := by omega
      rw [this]
      simp
      exact .nil
    | some a => split <;> exact .zero _ _
  · obtain ⟨b, o, rfl, -, -⟩ := h.addr (by omega)
    rw [if_pos (by omega)]
    have e : Option.map (fun x : Addr => x.add i) (some ⟨b, o, none⟩) = some ⟨b, o + i, none⟩ := by simp [Addr.add]
    rw [e]
    exact h.piece (p := i) (q := j - i) (by omega) (c - i) (by omega)

theorem hold4 {W w' w5 : World} {a b c d : Addr} {x y z u : Value} (h : w'.cell? a = some x ∧ w'.cell? b = some y ∧ w'.cell? c = some z ∧ w'.cell? d = some u ∧ Keeps W w' []) (la : a.block < W.heap.size) (lb : b.block < W.heap.size) (lc : c.block < W.heap.size) (ld : d.block < W.heap.size) (k : Keeps w' w5 []) :
    w5.cell? a = some x ∧ w5.cell? b = some y ∧ w5.cell? c = some z ∧ w5.cell? d = some u ∧ Keeps W w5 [] := by
  obtain ⟨h1, h2, h3, h4, h5⟩ := h
  have hs := h5.size
  exact ⟨(k.cell (by omega) (by simp)).trans h1, (k.cell (by omega) (by simp)).trans h2, (k.cell (by omega) (by simp)).trans h3, (k.cell (by omega) (by simp)).trans h4, h5.then k⟩

theorem byteE_iff (B : List Int) (k : Nat) : (if byteE B k = 0 then byteX B k else 0) = byteX B k ∧ (if byteE B k = 0 then byteK B k else k) = byteK B k := by
  unfold byteE byteX byteK
  by_cases h : k < B.length
  · simp [h]
  · simp [h, List.getElem?_eq_none (Nat.le_of_not_lt h)]

set_option maxRecDepth 100000 in
theorem byte_any (p k : Nat) (v : Value) (B : List Int) (w : World) (hc : Cur w p v B k) :
    Calls Tryz.prog 129 #[.pointer (some ⟨p, 0, none⟩)] w (CurEnd w p v B (.int .u8 (byteX B k)) (byteE B k) (byteK B k)) := by
  have hp := hc.old.1
  have k0 : Keeps w (w.alloc (.cells #[.pointer (some ⟨p, 0, none⟩)] 71)) [] := (Keeps.refl w []).alloc _
  have b0 := Blk.new w #[.pointer (some ⟨p, 0, none⟩)] 71
  have h := readByte_any p k (byteK B k) v B (w.alloc (.cells #[.pointer (some ⟨p, 0, none⟩)] 71)) #[.pointer (some ⟨w.heap.size, 0, none⟩)] (byteX B k) (byteE B k) (hc.keeps k0)
    (fun w1 k1 => byte1_any p w.heap.size k v B w1 ((hc.keeps k0).keeps k1) (b0.keeps k1 (by simp)) (by omega))
  rw [(byteE_iff B k).1, (byteE_iff B k).2] at h
  have H := Lib.hid h
  clear h hc
  generalize byteX B k = X at *
  generalize byteE B k = E at *
  generalize byteK B k = K' at *
  go_enter Tryz.func129, Tryz.ntmps129
  go_wp2_with (refine H.out.mono ?_; rintro e w1 ⟨rfl, cur1, k1⟩)
  exact bodyPost_ret (v := .tuple #[.int .u8 X, .int .i64 E]) (by simp [results, Tryz.results129]) rfl ⟨rfl, cur1, (k0.mono (by simp)).trans k1 (fun j hj _ => hj)⟩

/-- What the next m bytes are. -/
def bytesE (B : List Int) (k : Nat) (m : Int) : Int := if m < 0 then 2 else if (B.length : Int) - (k : Int) < m then 3 else 0
def bytesX (B : List Int) (k : Nat) (m : Int) : List Int := if bytesE B k m = 0 then (B.drop k).take m.toNat else []
def bytesK (B : List Int) (k : Nat) (m : Int) : Nat := if bytesE B k m = 0 then k + m.toNat else k

set_option maxRecDepth 100000 in
set_option maxHeartbeats 2000000 in
theorem bytes1_neg (p hn h k : Nat) (m : Int) (v : Value) (B : List Int) (w : World) (hc : Cur w p v B k) (hb : Blk w h #[.pointer (some ⟨p, 0, none⟩)] 71) (hm : Blk w hn #[.int .i64 m] 3) (h0 : m < 0) :
    Calls Tryz.prog 136 #[.pointer (some ⟨hn, 0, none⟩), .pointer (some ⟨h, 0, none⟩)] w (CurB w p v B [] 2 k) := by
  have HC := Lib.hid hc
  obtain ⟨m0, -⟩ := hm.one
  clear hc hb hm
  go_enter Tryz.func136, Tryz.ntmps136
  go_wp2_with fail
  exact bodyPost_ret (v := .tuple #[.slice none 0 0, .int .i64 2]) (by simp [results, Tryz.results136]) rfl ⟨_, rfl, .nil, .nil, HC.out, Keeps.refl _ _⟩

set_option maxRecDepth 100000 in
set_option maxHeartbeats 2000000 in
theorem bytes1_short (p hn h k : Nat) (m : Int) (v : Value) (B : List Int) (w : World) (hc : Cur w p v B k) (hb : Blk w h #[.pointer (some ⟨p, 0, none⟩)] 71) (hm : Blk w hn #[.int .i64 m] 3) (h0 : ¬ m < 0) (h1 : (B.length : Int) - (k : Int) < m) :
    Calls Tryz.prog 136 #[.pointer (some ⟨hn, 0, none⟩), .pointer (some ⟨h, 0, none⟩)] w (CurB w p v B [] 3 k) := by
  have HC := Lib.hid hc
  have HL := Lib.hid (fun n => left_any p k v B (w.drewN n) (hc.keeps ((Keeps.refl _ _).drewN n)))
  obtain ⟨m0, -⟩ := hm.one
  obtain ⟨d0, -⟩ := hb.one
  have d1 : decide (m < 0) = false := decide_eq_false h0
  clear hc hb hm
  go_enter Tryz.func136, Tryz.ntmps136
  go_wp2_with fail
  go_quiet ((go_at_call 98; exact Calls.quiet_of (HL.out _)))
  go_wp2_with fail
  exact bodyPost_ret (v := .tuple #[.slice none 0 0, .int .i64 3]) (by simp [results, Tryz.results136]) rfl ⟨_, rfl, .nil, .nil, HC.out.keeps ((Keeps.refl _ _).drewN nq), (Keeps.refl _ _).drewN nq⟩

set_option maxRecDepth 100000 in
set_option maxHeartbeats 4000000 in
theorem bytes1_ok (p hn h k : Nat) (m : Nat) (v : Value) (B : List Int) (w : World) (hc : Cur w p v B k) (hb : Blk w h #[.pointer (some ⟨p, 0, none⟩)] 71) (hm : Blk w hn #[.int .i64 (m : Int)] 3) (hnp : hn ≠ p) (hhp : h ≠ p) (h1 : k + m ≤ B.length) :
    Calls Tryz.prog 136 #[.pointer (some ⟨hn, 0, none⟩), .pointer (some ⟨h, 0, none⟩)] w (CurB w p v B ((B.drop k).take m) 0 (k + m)) := by
  have HL := Lib.hid (fun n => left_any p k v B (w.drewN n) (hc.keeps ((Keeps.refl _ _).drewN n)))
  obtain ⟨m0, -⟩ := hm.one
  obtain ⟨d0, -⟩ := hb.one
  obtain ⟨c0, c1, f1⟩ := hc.cells
  have hlen := hc.len
  have d1 : decide ((m : Int) < 0) = false := decide_eq_false (by omega)
  have d2 : decide ((B.length : Int) - (k : Int) < (m : Int)) = false := decide_eq_false (by omega)
  have NC : Hid (∀ W, Keeps w W [] → Cur (W.setCell ⟨p, 1, none⟩ (.int .i64 ((k : Int) + (m : Int)))) p v B (k + m)) := fun W kw => by
    have := (hc.keeps kw).set (k' := k + m) (by omega)
    simpa using this
  obtain ⟨r, hr0, rr, hpr0⟩ := slice_part hc.rd (i := k) (j := k + m) (by omega) (by omega)
  rw [Nat.add_sub_cancel_left] at rr
  have hr : ∀ w, (Instr.slice 22 v (some (.int .i64 (k : Int))) (some (.int .i64 ((k : Int) + (m : Int)))) none).run Tryz.prog w = .ok r w := fun w => by
    have := hr0 w
    rwa [Int.natCast_add] at this
  have HPR := Lib.hid (fun (ad : Addr) (n' c' : Nat) (he : r = .slice (some ad) n' c') (h0 : 0 < n') => (fun hm => by
    obtain ⟨ad', n1, c1, hv, hn1, hb1⟩ := hpr0 ad n' c' he h0
    have := hc.ne ad' n1 c1 hv hn1
    rw [List.mem_singleton] at hm
    rw [hb1] at hm
    exact this hm : ad.block ∉ [p]))
  have HLT := Lib.hid (And.intro hb.lt hm.lt)
  clear hr0 hpr0
  have hlr : ((B.drop k).take m).length ≤ 1000000 := by simp; omega
  generalize (B.drop k).take m = L at *
  have HLR := Lib.hid hlr
  clear hlr
  have hpn := hnp.symm
  have hph := hhp.symm
  obtain ⟨lp, -⟩ := hc.old
  obtain ⟨ad, n, c, rfl, hnn, -⟩ := hc.rd.form
  have HN := Lib.hid hnn
  have HNE := Lib.hid hc.ne
  clear hc hb hm hnn
  go_enter Tryz.func136, Tryz.ntmps136
  go_wp2_with fail
  go_quiet ((go_at_call 98; exact Calls.quiet_of (HL.out _)))
  go_wp2_with fail
  go_region
  have kW : Keeps w ((w.drewN (nq + 1)).setCell ⟨p, 1, none⟩ (.int .i64 ((k : Int) + (m : Int)))) [p] := ((Keeps.refl _ _).drewN _).setCell (.inr (by simp)) _
  have NC1 := Lib.hid (NC.out _ ((Keeps.refl w []).drewN (nq + 1)))
  have RR1 := Lib.hid (rr.keepsS kW (HPR.out))
  have e1 := (kW.cell (p := ⟨h, 0, none⟩) HLT.out.1 (by simpa using hhp)).trans d0
  have e2 := (kW.cell (p := ⟨hn, 0, none⟩) HLT.out.2 (by simpa using hnp)).trans m0
  have l1 := Nat.lt_of_lt_of_le HLT.out.1 kW.size
  have l2 := Nat.lt_of_lt_of_le HLT.out.2 kW.size
  have l3 := Nat.lt_of_lt_of_le lp kW.size
  obtain ⟨e3, e4, -⟩ := NC1.out.cells
  rw [Int.natCast_add] at e4
  clear c0 c1 f1 d0 m0 NC rr
  generalize ((w.drewN (nq + 1)).setCell ⟨p, 1, none⟩ (.int .i64 ((k : Int) + (m : Int)))) = W1 at *
  have HCL := Lib.hid (fun W' (k' : Keeps W1 W' []) => cloneb_any r _ W' (RR1.out.keeps k') HLR.out)
  have HR := Lib.hid hr
  have hwk : IntKind.i64.wrap (k : Int) = (k : Int) := IntWalk.i64_in _ ⟨by omega, by omega⟩
  clear hr
  go_wp2_with fail
  refine wp_region_held_drew (S := (fun w' => w'.cell? ⟨h, 0, none⟩ = some (.pointer (some ⟨p, 0, none⟩)) ∧ w'.cell? ⟨hn, 0, none⟩ = some (.int .i64 (m : Int)) ∧ w'.cell? ⟨p, 0, none⟩ = some (.slice ad n c) ∧ w'.cell? ⟨p, 1, none⟩ = some (.int .i64 ((k : Int) + (m : Int))) ∧ Keeps W1 w' [])) (by kernel_rfl) ⟨e1, e2, e3, e4, (Keeps.refl _ _).drew⟩ (fun hHeld => ?_)
  refine takeL (i := 0) (v := ?_) rfl (by kernel_rfl) (by kernel_rfl) (by kernel_rfl) (fun _ _ _ h => h) (by rfl) ?_ (by assumption) ?_
  rotate_left
  · (intro w hSw; (try dsimp only at hSw); go_simp; (try with_reducible rfl))
  try simp only [Act.put, List.setIfInBounds_toArray, List.set_cons_zero, List.set_cons_succ]
  refine takeL (i := 1) (v := ?_) rfl (by kernel_rfl) (by kernel_rfl) (by kernel_rfl) (fun _ _ _ h => h) (by rfl) ?_ (by assumption) ?_
  rotate_left
  · (intro w hSw; (try dsimp only at hSw); go_simp; (try with_reducible rfl))
  try simp only [Act.put, List.setIfInBounds_toArray, List.set_cons_zero, List.set_cons_succ]
  refine takeL (i := 2) (v := ?_) rfl (by kernel_rfl) (by kernel_rfl) (by kernel_rfl) (fun _ _ _ h => h) (by rfl) ?_ (by assumption) ?_
  rotate_left
  · (intro w hSw; (try dsimp only at hSw); go_simp; (try with_reducible rfl))
  try simp only [Act.put, List.setIfInBounds_toArray, List.set_cons_zero, List.set_cons_succ]
  refine takeL (i := 3) (v := ?_) rfl (by kernel_rfl) (by kernel_rfl) (by kernel_rfl) (fun _ _ _ h => h) (by rfl) ?_ (by assumption) ?_
  rotate_left
  · (intro w hSw; (try dsimp only at hSw); go_simp; (try with_reducible rfl))
  try simp only [Act.put, List.setIfInBounds_toArray, List.set_cons_zero, List.set_cons_succ]
  refine takeL (i := 4) (v := ?_) rfl (by kernel_rfl) (by kernel_rfl) (by kernel_rfl) (fun _ _ _ h => h) (by rfl) ?_ (by assumption) ?_
  rotate_left
  · (intro w hSw; (try dsimp only at hSw); go_simp; (try with_reducible rfl))
  try simp only [Act.put, List.setIfInBounds_toArray, List.set_cons_zero, List.set_cons_succ]
  refine takeL (i := 5) (v := ?_) rfl (by kernel_rfl) (by kernel_rfl) (by kernel_rfl) (fun _ _ _ h => h) (by rfl) ?_ (by assumption) ?_
  rotate_left
  · (intro w hSw; (try dsimp only at hSw); go_simp; (try with_reducible rfl))
  try simp only [Act.put, List.setIfInBounds_toArray, List.set_cons_zero, List.set_cons_succ]
  refine takeL (i := 6) (v := ?_) rfl (by kernel_rfl) (by kernel_rfl) (by kernel_rfl) (fun _ _ _ h => h) (by rfl) ?_ (by assumption) ?_
  rotate_left
  · (intro w hSw; (try dsimp only at hSw); go_simp; (try with_reducible rfl))
  try simp only [Act.put, List.setIfInBounds_toArray, List.set_cons_zero, List.set_cons_succ]
  refine takeL (i := 7) (v := ?_) rfl (by kernel_rfl) (by kernel_rfl) (by kernel_rfl) (fun _ _ _ h => h) (by rfl) ?_ (by assumption) ?_
  rotate_left
  · (intro w hSw; (try dsimp only at hSw); go_simp; (try with_reducible rfl))
  try simp only [Act.put, List.setIfInBounds_toArray, List.set_cons_zero, List.set_cons_succ]
  refine takeL (i := 8) (v := ?_) rfl (by kernel_rfl) (by kernel_rfl) (by kernel_rfl) (fun _ _ _ h => h) (by rfl) ?_ (by assumption) ?_
  rotate_left
  · (intro w hSw; (try dsimp only at hSw); go_simp; (try with_reducible rfl))
  try simp only [Act.put, List.setIfInBounds_toArray, List.set_cons_zero, List.set_cons_succ]
  refine takeL (i := 9) (v := ?_) rfl (by kernel_rfl) (by kernel_rfl) (by kernel_rfl) (fun _ _ _ h => h) (by rfl) ?_ (by assumption) ?_
  rotate_left
  · (intro w hSw; (try dsimp only at hSw); go_simp; (try with_reducible rfl))
  try simp only [Act.put, List.setIfInBounds_toArray, List.set_cons_zero, List.set_cons_succ]
  refine takeL (i := 10) (v := ?_) rfl (by kernel_rfl) (by kernel_rfl) (by kernel_rfl) (fun _ _ _ h => h) (by rfl) ?_ (by assumption) ?_
  rotate_left
  · (intro w hSw; (try dsimp only at hSw); go_simp; (try with_reducible rfl))
  try simp only [Act.put, List.setIfInBounds_toArray, List.set_cons_zero, List.set_cons_succ]
  refine takeL (i := 11) (v := ?_) rfl (by kernel_rfl) (by kernel_rfl) (by kernel_rfl) (fun _ _ _ h => h) (by rfl) ?_ (by assumption) ?_
  rotate_left
  · (intro w hSw; (try dsimp only at hSw); go_simp; (try with_reducible rfl))
  try simp only [Act.put, List.setIfInBounds_toArray, List.set_cons_zero, List.set_cons_succ]
  refine takeL (i := 12) (v := ?_) rfl (by kernel_rfl) (by kernel_rfl) (by kernel_rfl) (fun _ _ _ h => h) (by rfl) ?_ (by assumption) ?_
  rotate_left
  · (intro w hSw; (try dsimp only at hSw); go_simp; (try with_reducible rfl))
  try simp only [Act.put, List.setIfInBounds_toArray, List.set_cons_zero, List.set_cons_succ]
  refine takeL (i := 13) (v := ?_) rfl (by kernel_rfl) (by kernel_rfl) (by kernel_rfl) (fun _ _ _ h => h) (by rfl) ?_ (by assumption) ?_
  rotate_left
  · (intro w hSw; (try dsimp only at hSw); go_simp; (try with_reducible rfl))
  try simp only [Act.put, List.setIfInBounds_toArray, List.set_cons_zero, List.set_cons_succ]
  refine takeL (i := 14) (v := ?_) rfl (by kernel_rfl) (by kernel_rfl) (by kernel_rfl) (fun _ _ _ h => h) (by rfl) ?_ (by assumption) ?_
  rotate_left
  · (intro w hSw; (try dsimp only at hSw); have hr := HR.out; go_simp; (try with_reducible rfl))
  try simp only [Act.put, List.setIfInBounds_toArray, List.set_cons_zero, List.set_cons_succ]
  refine callL (i := 15) rfl (by kernel_rfl) (fun Kont hK => ?_)
  go_simp
  refine (HCL.out _ hHeld.2.2.2.2).mono ?_; rintro e w5 ⟨v5, rfl, own5, k5⟩; obtain ⟨a5, c5, rfl⟩ := own_form own5; have hsz5 := Lib.hid hHeld.2.2.2.2.size
  go_wp2_with fail
  refine hK.out _ _ ?_ (fun hHeld => ?_)
  · (exact hold4 hHeld l1 l2 l3 l3 k5)
  clear hK Kont
  refine takeL (i := 16) (v := ?_) rfl (by kernel_rfl) (by kernel_rfl) (by kernel_rfl) (fun _ _ _ h => h) (by rfl) ?_ (by assumption) ?_
  rotate_left
  · (intro w hSw; (try dsimp only at hSw); go_simp; (try with_reducible rfl))
  try simp only [Act.put, List.setIfInBounds_toArray, List.set_cons_zero, List.set_cons_succ]
  refine takeL (i := 17) (v := ?_) rfl (by kernel_rfl) (by kernel_rfl) (by kernel_rfl) (fun _ _ _ h => h) (by rfl) ?_ (by assumption) ?_
  rotate_left
  · (intro w hSw; (try dsimp only at hSw); go_simp; (try with_reducible rfl))
  try simp only [Act.put, List.setIfInBounds_toArray, List.set_cons_zero, List.set_cons_succ]
  refine wpAnyH_done (by kernel_rfl) ?_ _
  go_wp2_with fail
  have kf := kW.trans hHeld.2.2.2.2 (fun j hj _ => by simp at hj)
  have R5 := Lib.hid (own_reads own5)
  have F5 := Lib.hid (own_freshB own5)
  have C5 := NC1.out.keeps hHeld.2.2.2.2
  have hs := kW.size
  have hs2 := hsz5.out
  exact bodyPost_ret (v := .tuple #[.slice a5 L.length c5, .int .i64 0]) (by simp [results, Tryz.results136]) rfl ⟨_, rfl, R5.out, F5.out.mono (by omega), C5, kf⟩

theorem bytes1_any (p hn h k : Nat) (m : Int) (v : Value) (B : List Int) (w : World) (hc : Cur w p v B k) (hb : Blk w h #[.pointer (some ⟨p, 0, none⟩)] 71) (hm : Blk w hn #[.int .i64 m] 3) (hnp : hn ≠ p) (hhp : h ≠ p) :
    Calls Tryz.prog 136 #[.pointer (some ⟨hn, 0, none⟩), .pointer (some ⟨h, 0, none⟩)] w (CurB w p v B (bytesX B k m) (bytesE B k m) (bytesK B k m)) := by
  by_cases h0 : m < 0
  · have e1 : bytesE B k m = 2 := by simp [bytesE, h0]
    rw [bytesX, bytesK, e1]
    exact bytes1_neg p hn h k m v B w hc hb hm h0
  · by_cases h1 : (B.length : Int) - (k : Int) < m
    · have e1 : bytesE B k m = 3 := by simp [bytesE, h0, h1]
      rw [bytesX, bytesK, e1]
      exact bytes1_short p hn h k m v B w hc hb hm h0 h1
    · have e1 : bytesE B k m = 0 := by simp [bytesE, h0, h1]
      rw [bytesX, bytesK, e1]
      obtain ⟨M, rfl⟩ := Int.eq_ofNat_of_zero_le (show 0 ≤ m by omega)
      have := hc.le
      exact bytes1_ok p hn h k M v B w hc hb hm hnp hhp (by omega)

theorem bytesE_iff (B : List Int) (k : Nat) (m : Int) : (if bytesE B k m = 0 then bytesX B k m else []) = bytesX B k m ∧ (if bytesE B k m = 0 then bytesK B k m else k) = bytesK B k m := by
  unfold bytesX bytesK
  by_cases h : bytesE B k m = 0 <;> simp [h]

set_option maxRecDepth 100000 in
theorem bytes_any (p k : Nat) (m : Int) (v : Value) (B : List Int) (w : World) (hc : Cur w p v B k) :
    Calls Tryz.prog 96 #[.pointer (some ⟨p, 0, none⟩), .int .i64 m] w (CurB w p v B (bytesX B k m) (bytesE B k m) (bytesK B k m)) := by
  have hp := hc.old.1
  have k0 : Keeps w ((w.alloc (.cells #[.pointer (some ⟨p, 0, none⟩)] 71)).alloc (.cells #[.int .i64 m] 3)) [] := ((Keeps.refl w []).alloc _).alloc _
  have b0 := (Blk.new w #[.pointer (some ⟨p, 0, none⟩)] 71).alloc (.cells #[.int .i64 m] 3)
  have b1 := Blk.new (w.alloc (.cells #[.pointer (some ⟨p, 0, none⟩)] 71)) #[.int .i64 m] 3
  simp only [World.size_alloc] at b1
  have h := readBytes_any p k (bytesK B k m) v B ((w.alloc (.cells #[.pointer (some ⟨p, 0, none⟩)] 71)).alloc (.cells #[.int .i64 m] 3)) #[.pointer (some ⟨w.heap.size + 1, 0, none⟩), .pointer (some ⟨w.heap.size, 0, none⟩)] (bytesX B k m) (bytesE B k m) (hc.keeps k0)
    (fun w1 k1 => bytes1_any p (w.heap.size + 1) w.heap.size k m v B w1 ((hc.keeps k0).keeps k1) (b0.keeps k1 (by simp)) (b1.keeps k1 (by simp)) (by omega) (by omega))
  rw [(bytesE_iff B k m).1, (bytesE_iff B k m).2] at h
  have H := Lib.hid h
  have hs0 := k0.size
  clear h hc
  generalize bytesX B k m = X at *
  generalize bytesE B k m = E at *
  generalize bytesK B k m = K' at *
  go_enter Tryz.func96, Tryz.ntmps96
  go_wp2_with (refine H.out.mono ?_; rintro e w1 ⟨r1, rfl, rd1, fr1, cur1, k1⟩)
  exact bodyPost_ret (v := .tuple #[r1, .int .i64 E]) (by simp [results, Tryz.results96]) rfl ⟨r1, rfl, rd1, fr1.mono hs0, cur1, (k0.mono (by simp)).trans k1 (fun j hj _ => hj)⟩


end Go.Proofs.YtcmagccfagijlaaGreat
