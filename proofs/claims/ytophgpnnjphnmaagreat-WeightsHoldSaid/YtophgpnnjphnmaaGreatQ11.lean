/-
  Walks over package num: Cursor.Peek. (Printed by mkPk.py.)
  Walks over package desc: Decode. (Printed by mkRv.py.)
  A description is read back by the plain law of the decoders, whatever follows. (No walk is done here.)
  A cursor over bytes: Varint, Number.
  A cursor over bytes: Number.
  Walks over package weights: read, reader.number, reader.bytes, the bound method Byte. (Printed by mkVL.py.)
  Two numbers to a byte; rows of bytes that are changed in place. No program is in sight here but for the type of a byte.
  Walks over package weights: head, halved.
  Walks over package weights: reader.halves.
  Walks over the reference of numbers: Get, Number, Bytes.
  A varint is read back from its bytes, whatever stands around it. (No walk is done here.)
  The places of a table's states in plain words. (No program in sight.)
-/
import Derived.Test.YtophgpnnjphnmaaGreatQ10
import Derived.Test.YtophgpnnjphnmaaGreatQ2
import Derived.Test.YtophgpnnjphnmaaGreatQ7
import Derived.Test.YtophgpnnjphnmaaGreatQ1
import Derived.Laws.Bits64b
import Derived.Test.YtophgpnnjphnmaaGreatQ6
import Derived.Laws.OwnMore
import Derived.Test.YtophgpnnjphnmaaGreatRows
import Derived.ProofKit
namespace Go.Proofs.YtophgpnnjphnmaaGreat
section
set_option linter.unusedVariables false
set_option linter.unusedSimpArgs false
set_option linter.unusedSectionVars false
open Go.RowKit

set_option maxRecDepth 100000 in
set_option maxHeartbeats 4000000 in
theorem peek_any (p k : Nat) (v : Value) (B : List Int) (w : World) (hc : Cur w p v B k) :
    Calls Tryz.prog 103 #[.pointer (some ⟨p, 0, none⟩), .int .i64 1024] w fun e w' => ∃ v', e = .returned v' ∧ OwnB w' w.heap.size v' ((B.drop k).take 1024) ∧ Keeps w w' [] := by
  have HL := Lib.hid (left_any p k v B w hc)
  have hlen := hc.len
  have hle := hc.le
  obtain ⟨c0, c1, -⟩ := hc.cells
  obtain ⟨D, hD⟩ : ∃ D : Int, (B.length : Int) - (k : Int) = D := ⟨_, rfl⟩
  rw [hD] at HL
  obtain ⟨M, hM⟩ : ∃ M : Int, min (max 1024 0) D = M := ⟨_, rfl⟩
  obtain ⟨m, hm⟩ : ∃ m : Nat, M = (m : Int) := ⟨M.toNat, by omega⟩
  have hml : k + m ≤ B.length := by omega
  have ht : (B.drop k).take 1024 = (B.drop k).take m := by
    by_cases h : 1024 ≤ B.length - k
    · rw [show m = 1024 by omega]
    · rw [List.take_of_length_le (by rw [List.length_drop]; omega), List.take_of_length_le (by rw [List.length_drop]; omega)]
  rw [ht]
  obtain ⟨r, hr0, rr, -⟩ := slice_part hc.rd (i := k) (j := k + m) (by omega) hml
  rw [Nat.add_sub_cancel_left] at rr
  obtain ⟨T, hT⟩ : ∃ T : Int, (k : Int) + M = T := ⟨_, rfl⟩
  have hr : ∀ w, (Instr.slice 36 v (some (.int .i64 (k : Int))) (some (.int .i64 T)) none).run Tryz.prog w = .ok r w := fun w => by
    have := hr0 w
    rw [show T = ((k + m : Nat) : Int) by omega]
    exact this
  have mT : IntKind.i64.wrap T = T := by simp [IntKind.wrap, IntKind.signed, IntKind.bits]; omega
  have hll : ((B.drop k).take m).length ≤ 1000000 := by rw [List.length_take, List.length_drop]; omega
  generalize (B.drop k).take m = L at *
  have HCL := Lib.hid (fun W' (k' : Keeps w W' []) => cloneb_any r _ W' (rr.keeps k') hll)
  have HC := Lib.hid hc
  obtain ⟨ad, n, c, rfl, -, -⟩ := hc.rd.form
  clear hc rr hr0 hll ht hD hm hml hlen hle
  go_enter Tryz.func103, Tryz.ntmps103
  go_wp2_with fail
  refine HL.out.mono ?_
  rintro e w1 ⟨rfl, q, rfl⟩
  have k1 := (Keeps.refl w []).drewN q
  go_wp2_with fail
  clear c0 c1
  refine wp_region_held_drew (S := (fun w' => w'.cell? ⟨p, 0, none⟩ = some (.slice ad n c) ∧ w'.cell? ⟨p, 1, none⟩ = some (.int .i64 (k : Int)) ∧ Keeps w w' [])) (by kernel_rfl) ⟨(HC.out.keeps k1.drew).cells.1, (HC.out.keeps k1.drew).cells.2.1, k1.drew⟩ (fun hHeld => ?_)
  refine takeL (i := 0) (v := ?_) rfl (by kernel_rfl) (by kernel_rfl) (by kernel_rfl) (fun _ _ _ h => h) (by rfl) ?_ (by assumption) ?_
  rotate_left
  · (intro w9 hSw; obtain ⟨q0, q1, -⟩ := hSw; go_simp; (try with_reducible rfl))
  try simp only [Act.put, List.setIfInBounds_toArray, List.set_cons_zero, List.set_cons_succ]
  refine takeL (i := 1) (v := ?_) rfl (by kernel_rfl) (by kernel_rfl) (by kernel_rfl) (fun _ _ _ h => h) (by rfl) ?_ (by assumption) ?_
  rotate_left
  · (intro w9 hSw; obtain ⟨q0, q1, -⟩ := hSw; go_simp; (try with_reducible rfl))
  try simp only [Act.put, List.setIfInBounds_toArray, List.set_cons_zero, List.set_cons_succ]
  refine takeL (i := 2) (v := ?_) rfl (by kernel_rfl) (by kernel_rfl) (by kernel_rfl) (fun _ _ _ h => h) (by rfl) ?_ (by assumption) ?_
  rotate_left
  · (intro w9 hSw; obtain ⟨q0, q1, -⟩ := hSw; go_simp; (try with_reducible rfl))
  try simp only [Act.put, List.setIfInBounds_toArray, List.set_cons_zero, List.set_cons_succ]
  refine takeL (i := 3) (v := ?_) rfl (by kernel_rfl) (by kernel_rfl) (by kernel_rfl) (fun _ _ _ h => h) (by rfl) ?_ (by assumption) ?_
  rotate_left
  · (intro w9 hSw; obtain ⟨q0, q1, -⟩ := hSw; go_simp; (try with_reducible rfl))
  try simp only [Act.put, List.setIfInBounds_toArray, List.set_cons_zero, List.set_cons_succ]
  refine takeL (i := 4) (v := ?_) rfl (by kernel_rfl) (by kernel_rfl) (by kernel_rfl) (fun _ _ _ h => h) (by rfl) ?_ (by assumption) ?_
  rotate_left
  · (intro w9 hSw; obtain ⟨q0, q1, -⟩ := hSw; go_simp; (try with_reducible rfl))
  try simp only [Act.put, List.setIfInBounds_toArray, List.set_cons_zero, List.set_cons_succ]
  refine takeL (i := 5) (v := ?_) rfl (by kernel_rfl) (by kernel_rfl) (by kernel_rfl) (fun _ _ _ h => h) (by rfl) ?_ (by assumption) ?_
  rotate_left
  · (intro w9 hSw; obtain ⟨q0, q1, -⟩ := hSw; go_simp; (try with_reducible rfl))
  try simp only [Act.put, List.setIfInBounds_toArray, List.set_cons_zero, List.set_cons_succ]
  refine takeL (i := 6) (v := ?_) rfl (by kernel_rfl) (by kernel_rfl) (by kernel_rfl) (fun _ _ _ h => h) (by rfl) ?_ (by assumption) ?_
  rotate_left
  · (intro w9 hSw; obtain ⟨q0, q1, -⟩ := hSw; go_simp; (try with_reducible rfl))
  try simp only [Act.put, List.setIfInBounds_toArray, List.set_cons_zero, List.set_cons_succ]
  refine takeL (i := 7) (v := ?_) rfl (by kernel_rfl) (by kernel_rfl) (by kernel_rfl) (fun _ _ _ h => h) (by rfl) ?_ (by assumption) ?_
  rotate_left
  · (intro w9 hSw; obtain ⟨q0, q1, -⟩ := hSw; go_simp; (try with_reducible rfl))
  try simp only [Act.put, List.setIfInBounds_toArray, List.set_cons_zero, List.set_cons_succ]
  refine takeL (i := 8) (v := ?_) rfl (by kernel_rfl) (by kernel_rfl) (by kernel_rfl) (fun _ _ _ h => h) (by rfl) ?_ (by assumption) ?_
  rotate_left
  · (intro w9 hSw; obtain ⟨q0, q1, -⟩ := hSw; go_simp; (try with_reducible rfl))
  try simp only [Act.put, List.setIfInBounds_toArray, List.set_cons_zero, List.set_cons_succ]
  refine takeL (i := 9) (v := ?_) rfl (by kernel_rfl) (by kernel_rfl) (by kernel_rfl) (fun _ _ _ h => h) (by rfl) ?_ (by assumption) ?_
  rotate_left
  · (intro w9 hSw; obtain ⟨q0, q1, -⟩ := hSw; go_simp; (try with_reducible rfl))
  try simp only [Act.put, List.setIfInBounds_toArray, List.set_cons_zero, List.set_cons_succ]
  refine takeL (i := 10) (v := ?_) rfl (by kernel_rfl) (by kernel_rfl) (by kernel_rfl) (fun _ _ _ h => h) (by rfl) ?_ (by assumption) ?_
  rotate_left
  · (intro w9 hSw; obtain ⟨q0, q1, -⟩ := hSw; go_simp; (try with_reducible rfl))
  try simp only [Act.put, List.setIfInBounds_toArray, List.set_cons_zero, List.set_cons_succ]
  refine takeL (i := 11) (v := ?_) rfl (by kernel_rfl) (by kernel_rfl) (by kernel_rfl) (fun _ _ _ h => h) (by rfl) ?_ (by assumption) ?_
  rotate_left
  · (intro w9 hSw; obtain ⟨q0, q1, -⟩ := hSw; go_simp; (try with_reducible rfl))
  try simp only [Act.put, List.setIfInBounds_toArray, List.set_cons_zero, List.set_cons_succ]
  refine takeL (i := 12) (v := ?_) rfl (by kernel_rfl) (by kernel_rfl) (by kernel_rfl) (fun _ _ _ h => h) (by rfl) ?_ (by assumption) ?_
  rotate_left
  · (intro w9 hSw; obtain ⟨q0, q1, -⟩ := hSw; go_simp; (try with_reducible rfl))
  try simp only [Act.put, List.setIfInBounds_toArray, List.set_cons_zero, List.set_cons_succ]
  refine takeL (i := 13) (v := ?_) rfl (by kernel_rfl) (by kernel_rfl) (by kernel_rfl) (fun _ _ _ h => h) (by rfl) ?_ (by assumption) ?_
  rotate_left
  · (intro w9 hSw; obtain ⟨q0, q1, -⟩ := hSw; go_simp; (try with_reducible rfl))
  try simp only [Act.put, List.setIfInBounds_toArray, List.set_cons_zero, List.set_cons_succ]
  refine takeL (i := 14) (v := ?_) rfl (by kernel_rfl) (by kernel_rfl) (by kernel_rfl) (fun _ _ _ h => h) (by rfl) ?_ (by assumption) ?_
  rotate_left
  · (intro w9 hSw; obtain ⟨q0, q1, -⟩ := hSw; go_simp; (try with_reducible rfl))
  try simp only [Act.put, List.setIfInBounds_toArray, List.set_cons_zero, List.set_cons_succ]
  refine callL (i := 15) rfl (by kernel_rfl) (fun Kont hK => ?_)
  go_simp
  have KB := hHeld.2.2; refine (HCL.out _ hHeld.2.2).mono ?_; rintro e w3 ⟨v3, rfl, own3, k3⟩; obtain ⟨a3, c3, rfl⟩ := own_form own3
  go_wp2_with fail
  refine hK.out _ _ ?_ (fun hHeld => ?_)
  · (exact ⟨((HC.out.keeps (hHeld.2.2.then k3)).cells).1, ((HC.out.keeps (hHeld.2.2.then k3)).cells).2.1, hHeld.2.2.then k3⟩)
  clear hK Kont
  refine takeL (i := 16) (v := ?_) rfl (by kernel_rfl) (by kernel_rfl) (by kernel_rfl) (fun _ _ _ h => h) (by rfl) ?_ (by assumption) ?_
  rotate_left
  · (intro w9 hSw; clear hSw; go_simp; (try with_reducible rfl))
  try simp only [Act.put, List.setIfInBounds_toArray, List.set_cons_zero, List.set_cons_succ]
  refine wpAnyH_done (by kernel_rfl) ?_ _
  go_wp2_with fail
  go_ret
  exact ⟨_, rfl, own_base own3 (by have := k3.size; have := KB.size; omega), hHeld.2.2⟩
end

section
set_option linter.unusedVariables false
set_option linter.unusedSimpArgs false
set_option linter.unusedSectionVars false
open Go.RowKit

/-- A whole struct is stored into a block, as a step of a drawn region. -/
theorem step_storeB {P : Program} {ops : Array Oper} {o : Oper} {a : Act} {w : World} {K : Act → World → Prop} {Q : Exit → Act → World → Prop} {E : Prop} (hgd : o.guard = none) (ty : TypeId) (x y : Operand) (ho : o.op = .store ty x y)
    (g : Nat) (cells : Array Value) (hx : a.eval x = .pointer (some ⟨g, 0, none⟩)) (hy : a.eval y = .agg cells) (t : TypeId) (old : Array Value) (hb : Blk w g old t) (hi : (P.info? ty).map (·.size) = some cells.size)
    (hold : old.size = cells.size) (h1 : cells.all (·.oneCell') = true) (h : ∀ W, Blk W g cells t → Keeps w W [g] → K (a.put o.dst undef) W) :
    if Region.wanted o (yielded ops a.tmps) = true then Oper.wp P o a w K Q else E := by
  have hw : Region.wanted o (yielded ops a.tmps) = true := by simp [Region.wanted, hgd]
  rw [if_pos hw]
  exact wp_store_row ty x y ho g cells hx hy t old hb hi hold h1 (h _ (setRow_heap w g old cells t (0, 0) hb) keeps_setRow)

/-- The table that the bits say, and how many bytes its description has. -/
def descP (D : List Int) (symbols : Nat) (log : Int) : Except Int (Nat × List Int × Nat) :=
  match tabP D symbols log with
  | .error e => .error e
  | .ok (n, l, L2) => if valL (L2.take (L2.length % 8)) = 0 then .ok (n, l, D.length - L2.length / 8) else .error 14

/-- How Decode ends. -/
def DescEnd (w : World) (p : Nat) (v : Value) (B : List Int) (k : Nat) (Z : Except Int (Nat × List Int × Nat)) (e : Ending) (w' : World) : Prop :=
  Keeps w w' [p] ∧ match Z with
    | .ok (G, l, m) => ∃ a c, e = .returned (.tuple #[.agg #[.int .i64 (G : Int), .slice a l.length c], .int .i64 0]) ∧ w'.ownsRow w.heap.size 3 1 (.slice a l.length c) l.length (l.map (.int .i64)) ∧ l.length ≤ 1300 ∧ Cur w' p v B (k + m)
    | .error n => n ≠ 0 ∧ e = .returned (.tuple #[.agg #[.int .i64 0, .slice none 0 0], .int .i64 n]) ∧ Cur w' p v B k

theorem bytes_peek {B : List Int} {k m : Nat} (hk : k ≤ B.length) (h : m ≤ ((B.drop k).take 1024).length) : bytesE B k (m : Int) = 0 ∧ bytesK B k (m : Int) = k + m := by
  rw [List.length_take, List.length_drop] at h
  have e : bytesE B k (m : Int) = 0 := by
    unfold bytesE
    rw [if_neg (by omega)]
    by_cases h0 : (B.length : Int) - (k : Int) < (m : Int)
    · omega
    · rw [if_neg h0]
  exact ⟨e, by rw [bytesK, if_pos e, Int.toNat_natCast]⟩

set_option maxRecDepth 100000 in
set_option maxHeartbeats 2000000 in
theorem ddecode_any (p k symbols : Nat) (log : Int) (v : Value) (B : List Int) (w : World) (hc : Cur w p v B k) (hs : symbols ≤ 256) :
    Calls Tryz.prog 76 #[.pointer (some ⟨p, 0, none⟩), .int .i64 symbols, .int .i64 log] w (DescEnd w p v B k (descP ((B.drop k).take 1024) symbols log)) := by
  obtain ⟨D, hD⟩ : ∃ D, (B.drop k).take 1024 = D := ⟨_, rfl⟩
  have HBP := Lib.hid (fun m => bytes_peek (B := B) (k := k) (m := m) hc.le)
  rw [hD] at HBP ⊢
  have hDl : D.length ≤ 1000000 := by rw [← hD, List.length_take]; omega
  have hDb : ∀ x ∈ D, 0 ≤ x ∧ x ≤ 255 := fun x hx => hc.byte x (List.mem_of_mem_drop (List.mem_of_mem_take (hD ▸ hx)))
  obtain ⟨Z, hZ⟩ : ∃ Z, descP D symbols log = Z := ⟨_, rfl⟩
  rw [hZ]
  unfold descP at hZ
  have HZ := Lib.hid hZ
  clear hZ
  have hlp := hc.old.1
  have HOLD := Lib.hid hc.old.2
  have k0 := (Keeps.refl w []).alloc (.cells #[.int .i64 0, .slice none 0 0] 92)
  have b0 := Blk.new w #[.int .i64 0, .slice none 0 0] 92
  have HP := Lib.hid (peek_any p k v B _ (hc.keeps k0))
  rw [hD] at HP
  have HC := Lib.hid hc
  have HDB := Lib.hid hDb
  have hmin : min (symbols : Int) 256 = (symbols : Int) := by omega
  clear hc hD hDb
  go_enter Tryz.func76, Tryz.ntmps76
  go_wp2_with fail
  refine HP.out.mono ?_
  rintro e w1 ⟨v1, rfl, own1, k1⟩
  have HF := Lib.hid (newFwd_any v1 D w1 (own_reads own1) hDl HDB.out)
  have b1 := b0.keeps k1 (by simp)
  have kk1 := k0.then k1
  obtain ⟨a1, c1, rfl⟩ := own_form own1
  clear own1 k1 k0 b0
  go_wp2_with fail
  refine HF.out.mono ?_
  rintro e w2 ⟨R, g, rfl, br, hR, hg, k2⟩
  have kb := (Keeps.refl w2 []).alloc (.cells #[.pointer (some ⟨R, 0, none⟩), .int .i64 0] 139)
  have lR := br.lt
  have dr : DR (w2.alloc (.cells #[.pointer (some ⟨R, 0, none⟩), .int .i64 0] 139)) w2.heap.size R g D 0 0 :=
    ⟨Blk.new w2 _ _, br.keep kb, by omega, fun h0 => by have := lR.2 h0; omega⟩
  have HT := Lib.hid (table_any w2.heap.size R g symbols log D _ dr hs)
  have b2 := b1.keeps (k2.then kb) (by simp)
  have kk2 := (kk1.then k2).then kb
  have hs1 := kk1.size
  have hs2 := k2.size
  have hb1 := b1.lt
  have hRw : w.heap.size < R := Nat.lt_of_lt_of_le hb1 hR
  have hQw : w.heap.size < w2.heap.size := Nat.lt_of_lt_of_le hb1 hs2
  obtain ⟨Q, hQ⟩ : ∃ Q, w2.heap.size = Q := ⟨_, rfl⟩
  rw [hQ] at hQw
  rw [hQ] at HT hs2
  have hR3 : R < (w2.alloc (.cells #[.pointer (some ⟨R, 0, none⟩), .int .i64 0] 139)).heap.size := dr.rd.lt.1
  have hw3 : w.heap.size < (w2.alloc (.cells #[.pointer (some ⟨R, 0, none⟩), .int .i64 0] 139)).heap.size := b2.lt
  clear dr br kb k2 lR b1 kk1
  go_wp2_with fail
  have HQ := Lib.hid hQ
  generalize (w2.alloc (.cells #[.pointer (some ⟨R, 0, none⟩), .int .i64 0] 139)) = w3 at *
  have hs3 := kk2.size
  clear hQ
  refine HT.out.mono ?_
  rintro e w4 ⟨G, l, a, c, rfl, own4, hl, hdone, k4⟩
  have b4 := b2.keeps k4 (by simp; omega)
  have kk4 : Keeps w w4 [] := kk2.trans k4 (fun j hj hl => by simp at hj; omega)
  have O4 := Lib.hid own4
  have hs4 := k4.size
  clear own4 k4 b2 HT HP HF
  cases hz : tabP D symbols log with
  | error er =>
    rw [hz] at hdone
    have hzz := HZ.out
    rw [hz] at hzz
    obtain ⟨her, p', d4⟩ := hdone
    have c0 := d4.blk.cell 0
    have c1 := d4.blk.cell 1
    simp at c0 c1
    have hne : (er != 0) = true := by simpa using her
    have hQ4 := d4.blk.lt
    have hT4 := b4.lt
    go_wp2_with fail
    have ka := (Keeps.refl w4 []).alloc (.cells #[.int .i64 (G : Int), .slice a l.length c] 92)
    have d5 := d4.keep ka
    have b5 := b4.keeps ka (by simp)
    have kk5 := kk4.then ka
    clear c0 c1 d4 b4 ka
    generalize (w4.alloc (.cells #[.int .i64 (G : Int), .slice a l.length c] 92)) = w5 at *
    refine wp_region_held_drew (S := (fun w' => Blk w' Q #[.pointer (some ⟨R, 0, none⟩), .int .i64 er] 139)) (by kernel_rfl) d5.blk.drew (fun hHeld => ?_)
    refine takeL (i := 0) (v := ?_) rfl (by kernel_rfl) (by kernel_rfl) (by kernel_rfl) (fun _ _ _ h => h) (by rfl) ?_ (by assumption) ?_
    rotate_left
    · (intro w9 hSw; have q0 := hSw.cell 0; have q1 := hSw.cell 1; simp at q0 q1; clear hSw; go_simp; (try with_reducible rfl))
    try simp only [Act.put, List.setIfInBounds_toArray, List.set_cons_zero, List.set_cons_succ]
    refine takeL (i := 1) (v := ?_) rfl (by kernel_rfl) (by kernel_rfl) (by kernel_rfl) (fun _ _ _ h => h) (by rfl) ?_ (by assumption) ?_
    rotate_left
    · (intro w9 hSw; have q0 := hSw.cell 0; have q1 := hSw.cell 1; simp at q0 q1; clear hSw; go_simp; (try with_reducible rfl))
    try simp only [Act.put, List.setIfInBounds_toArray, List.set_cons_zero, List.set_cons_succ]
    refine takeL (i := 2) (v := ?_) rfl (by kernel_rfl) (by kernel_rfl) (by kernel_rfl) (fun _ _ _ h => h) (by rfl) ?_ (by assumption) ?_
    rotate_left
    · (intro w9 hSw; have q0 := hSw.cell 0; have q1 := hSw.cell 1; simp at q0 q1; clear hSw; go_simp; (try with_reducible rfl))
    try simp only [Act.put, List.setIfInBounds_toArray, List.set_cons_zero, List.set_cons_succ]
    refine takeL (i := 3) (v := ?_) rfl (by kernel_rfl) (by kernel_rfl) (by kernel_rfl) (fun _ _ _ h => h) (by rfl) ?_ (by assumption) ?_
    rotate_left
    · (intro w9 hSw; have q0 := hSw.cell 0; have q1 := hSw.cell 1; simp at q0 q1; clear hSw; go_simp; (try with_reducible rfl))
    try simp only [Act.put, List.setIfInBounds_toArray, List.set_cons_zero, List.set_cons_succ]
    refine takeL (i := 4) (v := ?_) rfl (by kernel_rfl) (by kernel_rfl) (by kernel_rfl) (fun _ _ _ h => h) (by rfl) ?_ (by assumption) ?_
    rotate_left
    · (intro w9 hSw; have q0 := hSw.cell 0; have q1 := hSw.cell 1; simp at q0 q1; clear hSw; go_simp; (try with_reducible rfl))
    try simp only [Act.put, List.setIfInBounds_toArray, List.set_cons_zero, List.set_cons_succ]
    refine callL (i := 5) rfl (by kernel_rfl) (fun Kont hK => ?_)
    refine step_storeB rfl 92 _ _ rfl w.heap.size #[.int .i64 0, .slice none 0 0] rfl rfl _ _ b5.drew tblr_size rfl (by simp [Value.oneCell']) ?_
    intro W9 b9 k9
    refine hK.out _ _ ?_ (fun hHeld => ?_)
    · exact hHeld.keeps k9 (by simp; omega)
    clear hK Kont
    refine takeL (i := 6) (v := ?_) rfl (by kernel_rfl) (by kernel_rfl) (by kernel_rfl) (fun _ _ _ h => h) (by rfl) ?_ (by assumption) ?_
    rotate_left
    · (intro w9 hSw; clear hSw; go_simp; (try with_reducible rfl))
    try simp only [Act.put, List.setIfInBounds_toArray, List.set_cons_zero, List.set_cons_succ]
    refine wpAnyH_done (by kernel_rfl) ?_ _
    go_wp2_with fail
    have e9 := kk5.drew.trans k9 (S' := [w.heap.size]) (fun j hj hl => by have := List.mem_singleton.1 hj; omega)
    refine bodyPost_ret (v := .tuple #[.agg #[.int .i64 0, .slice none 0 0], .int .i64 er]) (res_cell_tmp rfl rfl rfl (loadr_tbl b9)) rfl ⟨e9.mono (by simp), ?_⟩
    rw [← hzz]
    exact ⟨her, rfl, HC.out.keeps e9⟩
  | ok z =>
    obtain ⟨n, l', L2⟩ := z
    rw [hz] at hdone
    have hzz := HZ.out
    rw [hz] at hzz
    obtain ⟨rfl, rfl, p', rfl, hp', d4⟩ := hdone
    have c0 := d4.blk.cell 0
    have c1 := d4.blk.cell 1
    simp at c0 c1
    have hQ4 := d4.blk.lt
    have hT4 := b4.lt
    have hlen : ((rowBits D).drop p').length = 8 * D.length - p' := by rw [List.length_drop, rowBits_len]
    obtain ⟨m, hm⟩ : ∃ m, (8 - p' % 8) % 8 = m := ⟨_, rfl⟩
    have hmod : (8 * D.length - p') % 8 = m := by omega
    have hval : valL (((rowBits D).drop p').take m) = bitsAt D p' m := rfl
    obtain ⟨nb, hnb⟩ : ∃ nb, (p' + m) / 8 = nb := ⟨_, rfl⟩
    have hnb2 : D.length - (8 * D.length - p') / 8 = nb := by omega
    have hnbl : nb ≤ D.length := by omega
    simp only at hzz
    rw [hlen, hmod, hval, hnb2] at hzz
    have HZZ := Lib.hid hzz
    have HA := Lib.hid (fun W (d : DR W Q R g D p' 0) => fwdAlign_any R g D p' W d.rd)
    rw [hm, hnb] at HA
    obtain ⟨hbe, hbk⟩ := HBP.out nb hnbl
    have HB := Lib.hid (fun W (cu : Cur W p v B k) => bytes_any p k (nb : Int) v B W cu)
    rw [hbe, hbk] at HB
    clear hlen hmod hval hnb2 hzz hz hbe hbk hm hnb
    go_wp2_with fail
    have ka := (Keeps.refl w4 []).alloc (.cells #[.int .i64 (n : Int), .slice a l'.length c] 92)
    have d5 := d4.keep ka
    have b5 := b4.keeps ka (by simp)
    have t5 := Blk.new w4 #[.int .i64 (n : Int), .slice a l'.length c] 92
    have O5 := Lib.hid (own_keeps O4.out ka)
    have kk5 := kk4.then ka
    have hs5 := ka.size
    have hRl := d4.rd.lt.1
    clear c0 c1 d4 b4 ka
    generalize (w4.alloc (.cells #[.int .i64 (n : Int), .slice a l'.length c] 92)) = w5 at *
    have HA5 := HA.out _ d5
    by_cases hV : bitsAt D p' m = 0
    · simp only [hV, if_true] at HZZ HA5
      refine HA5.mono ?_
      rintro e w6 ⟨rfl, br6, k6⟩
      have b6 := b5.keeps k6 (by simp; omega)
      have t6 := t5.keeps k6 (by simp; omega)
      have O6 := Lib.hid (own_old O5.out k6 (fun x hx hm => by have := List.mem_singleton.1 hm; have := (O4.out.lt x hx).1; omega))
      have kk6 : Keeps w w6 [] := kk5.trans k6 (fun j hj hl => by have := List.mem_singleton.1 hj; omega)
      have HC6 := Lib.hid (HC.out.keeps kk6)
      have hs6 := k6.size
      clear t5 b5 kk5 HA5 k6 br6
      go_wp2_with fail
      refine (HB.out _ HC6.out).mono ?_
      rintro e w7 ⟨r7, rfl, -, -, cur7, k7⟩
      have b7 := b6.keeps k7 (by simp; omega)
      have t7 := t6.keeps k7 (by simp; omega)
      have O7 := Lib.hid (own_old O6.out k7 (fun x hx hm => by have := List.mem_singleton.1 hm; have := (O4.out.lt x hx).1; omega))
      have kk7 : Keeps w w7 [p] := (kk6.mono (S' := [p]) (fun _ h => by cases h)).trans k7 (fun j hj hl => hj)
      have c0 := t7.cell 0
      have c1 := t7.cell 1
      simp at c0 c1
      clear t6 b6 kk6 k7
      go_wp2_with (refine wpList_store_blk rfl 92 _ _ rfl w.heap.size #[.int .i64 (n : Int), .slice a l'.length c] rfl rfl _ _ b7 tblr_size rfl (by simp [Value.oneCell']) ?_; intro W9 b9 k9)
      have e9 := kk7.trans k9 (S' := [w.heap.size]) (fun j hj hl => by have := List.mem_singleton.1 hj; omega)
      refine bodyPost_ret (v := .tuple #[.agg #[.int .i64 (n : Int), .slice a l'.length c], .int .i64 0]) (res_cell_tmp rfl rfl rfl (loadr_tbl b9)) rfl ⟨e9, ?_⟩
      rw [← HZZ.out]
      refine ⟨a, c, rfl, own_base (own_old O7.out k9 (fun x hx hm => by have := List.mem_singleton.1 hm; have := (O4.out.lt x hx).1; omega)) (by omega), hl, ?_⟩
      exact cur7.keepsS k9 (by simp; omega) (fun ad n0 c0 he h0 hm => by have := HOLD.out ad n0 c0 he h0; simp at hm; omega)
    · simp only [hV, if_false] at HZZ HA5
      refine HA5.mono ?_
      rintro e w6 ⟨rfl, k6⟩
      have b6 := b5.keeps k6 (by simp)
      have kk6 := kk5.then k6
      clear t5 b5 kk5 HA5
      go_wp2_with (refine wpList_store_blk rfl 92 _ _ rfl w.heap.size #[.int .i64 0, .slice none 0 0] rfl rfl _ _ b6 tblr_size rfl (by simp [Value.oneCell']) ?_; intro W9 b9 k9)
      have e9 := kk6.trans k9 (S' := [w.heap.size]) (fun j hj hl => by have := List.mem_singleton.1 hj; omega)
      refine bodyPost_ret (v := .tuple #[.agg #[.int .i64 0, .slice none 0 0], .int .i64 14]) (res_cell_tmp rfl rfl rfl (loadr_tbl b9)) rfl ⟨e9.mono (by simp), ?_⟩
      rw [← HZZ.out]
      exact ⟨by decide, rfl, HC.out.keeps e9⟩
end

section
set_option linter.unusedVariables false
set_option linter.unusedSimpArgs false

theorem valL_zeros : ∀ k, valL (List.replicate k false) = 0
  | 0 => rfl
  | k + 1 => by rw [List.replicate_succ, valL, valL_zeros k]; rfl
theorem descP_descE {log symbols logMost : Nat} {norm Z : List Int} (h1 : 1 ≤ log) (h2 : log ≤ 9) (hm : log ≤ logMost) (hl : norm.length ≤ symbols) (hlow : ∀ n ∈ norm, -1 ≤ n) (hs : sumN norm = ((2 ^ log : Nat) : Int)) (hlast : norm.getLast? ≠ some 0) :
    descP (descE log norm ++ Z) symbols (logMost : Int) = .ok (log, norm, (descE log norm).length) := by
  obtain ⟨k, hk, hb, hlen, -⟩ := packB_bits (descL log norm)
  have e : rowBits (descE log norm ++ Z) = bitsN (log - 1) 4 ++ (normsE norm.length (2 ^ log) norm ++ (List.replicate k false ++ rowBits Z)) := by
    rw [rowBits_append, descE, hb, descL]
    simp only [List.append_assoc]
  unfold descP tabP
  rw [e, tk_bits (by omega)]
  simp only
  rw [if_neg (by omega), show log - 1 + 1 = log by omega, normsP_normsE _ _ _ _ _ _ _ (by omega) (Nat.le_refl _) hlow hs (by simpa using hl) (fun _ => hlast) (fun h => by cases h)]
  simp only [List.nil_append, tabOf]
  have hL2 : (List.replicate k false ++ rowBits Z).length = k + 8 * Z.length := by rw [List.length_append, List.length_replicate, rowBits_len]
  rw [hL2, show (k + 8 * Z.length) % 8 = k by omega, List.take_left' (by rw [List.length_replicate]), if_pos (valL_zeros k), List.length_append, show (k + 8 * Z.length) / 8 = Z.length by omega, Nat.add_sub_cancel]
end

section
set_option linter.unusedVariables false
set_option linter.unusedSimpArgs false
set_option linter.unusedSectionVars false
open Go.RowKit

/-- A varint: the number, the error, the position behind it. f: how many bytes there may be still; i: how many there were; a: the number so far. -/
def varR (B : List Int) : Nat → Nat → Nat → Nat → Nat × Int × Nat
  | 0, _, _, k => (0, 18, k)
  | f + 1, i, a, k =>
    if k < B.length then
      if 128 ≤ byteX B k then varR B f (i + 1) (a + (byteX B k).toNat % 128 * 2 ^ (7 * i)) (k + 1)
      else if byteX B k = 0 ∧ 0 < i then (0, 5, k + 1)
      else if 4611686018427387903 < a + (byteX B k).toNat % 128 * 2 ^ (7 * i) then (0, 18, k + 1)
      else (a + (byteX B k).toNat % 128 * 2 ^ (7 * i), 0, k + 1)
    else (0, 3, k)

theorem varR_bound (B : List Int) : ∀ (f i a k : Nat), k ≤ B.length → (varR B f i a k).1 < 4611686018427387904 ∧ k ≤ (varR B f i a k).2.2 ∧ (varR B f i a k).2.2 ≤ B.length
  | 0, _, _, k, h => ⟨by simp [varR], by simp [varR], by simpa [varR] using h⟩
  | f + 1, i, a, k, h => by
    unfold varR
    split
    · rename_i hk
      split
      · obtain ⟨h1, h2, h3⟩ := varR_bound B f (i + 1) (a + (byteX B k).toNat % 128 * 2 ^ (7 * i)) (k + 1) hk
        exact ⟨h1, by omega, h3⟩
      · split
        · exact ⟨by simp, by simp, hk⟩
        · split
          · exact ⟨by simp, by simp, hk⟩
          · rename_i hb
            exact ⟨by simp only; omega, by simp, hk⟩
    · exact ⟨by simp, by simp, by simpa using h⟩

theorem and127_all : ∀ x : Fin 256, bits BinOp.and IntKind.u8 ((x.val : Nat) : Int) 127 = ((x.val % 128 : Nat) : Int) := by decide +kernel
theorem and127 {x : Int} (h0 : 0 ≤ x) (h1 : x ≤ 255) : bits BinOp.and IntKind.u8 x 127 = x % 128 := by
  obtain ⟨a, rfl⟩ := Int.eq_ofNat_of_zero_le h0
  have h := and127_all ⟨a, by omega⟩
  simpa using h
/-- The seven bits are laid above the number so far. -/
theorem or_shl {a x i : Nat} (hi : i ≤ 8) (ha : a < 2 ^ (7 * i)) (hx : x < 128) : bits BinOp.or IntKind.u64 (a : Int) ((x * 2 ^ (7 * i) : Nat) : Int) = ((a + x * 2 ^ (7 * i) : Nat) : Int) ∧ a + x * 2 ^ (7 * i) < 2 ^ (7 * (i + 1)) ∧ x * 2 ^ (7 * i) < 18446744073709551616 ∧ a < 18446744073709551616 := by
  have e : 2 ^ (7 * (i + 1)) = 128 * 2 ^ (7 * i) := by rw [Nat.mul_add, Nat.pow_add]; omega
  have h3 : (x + 1) * 2 ^ (7 * i) ≤ 128 * 2 ^ (7 * i) := Nat.mul_le_mul_right _ (by omega)
  rw [Nat.add_mul, Nat.one_mul] at h3
  have h4 : 2 ^ (7 * i) ≤ 2 ^ 56 := Nat.pow_le_pow_right (by decide) (by omega)
  have h5 : (2 : Nat) ^ 56 = 72057594037927936 := by decide
  rw [h5] at h4
  refine ⟨?_, by omega, by omega, by omega⟩
  rw [bits_or_u64_nat _ _ (by omega) (by omega)]
  congr 1
  rw [Nat.or_comm, Nat.mul_comm x, ← Nat.two_pow_add_eq_or_of_lt ha x, Nat.add_comm]

set_option maxRecDepth 100000 in
set_option maxHeartbeats 4000000 in
theorem varint1_any (p h k : Nat) (v : Value) (B : List Int) (w : World) (hc : Cur w p v B k) (hb : Blk w h #[.pointer (some ⟨p, 0, none⟩)] 44) (hhp : h ≠ p) :
    Calls Tryz.prog 128 #[.pointer (some ⟨h, 0, none⟩)] w (CurEnd w p v B (.int .u64 ((varR B 9 0 0 k).1 : Int)) (varR B 9 0 0 k).2.1 (varR B 9 0 0 k).2.2) := by
  obtain ⟨ad, n0, c0, rfl, -, -⟩ := hc.rd.form
  have HC := Lib.hid hc
  have HB := Lib.hid hb
  have HBY := Lib.hid hc.byte
  clear hc hb
  obtain ⟨R, hR⟩ : ∃ R, R = varR B 9 0 0 k := ⟨_, rfl⟩
  rw [← hR]
  have HR0 := Lib.hid hR
  clear hR
  obtain ⟨X, E, K⟩ := R
  dsimp only
  go_enter Tryz.func128, Tryz.ntmps128
  go_wp2_with fail
  go_loopw [3, 7] (fun m i wr => ∃ (j a : Nat), j ≤ 9 ∧ i = .int .i64 j ∧ m = .int .u64 (a : Int) ∧ Hid (a < 2 ^ (7 * j)) ∧ Hid ((X, E, K) = varR B (9 - j) j a (k + j)) ∧ Cur wr p (.slice ad n0 c0) B (k + j) ∧ Keeps w wr [p]) (fun _ i _ => 9 - (intOf i).toNat)
  case atStart => exact ⟨0, 0, by omega, rfl, rfl, (by decide : (0 : Nat) < 2 ^ (7 * 0)), HR0.out, HC.out, Keeps.refl _ _⟩
  case round =>
    obtain ⟨j, a, hj, rfl, rfl, ha, hR, cur, kk⟩ := hrel
    by_cases hlt : j < 9
    · have b1 := HB.out.keeps kk (by simpa using hhp)
      obtain ⟨d0, -⟩ := b1.one
      have CUR := Lib.hid cur
      have HBT := Lib.hid (byte_any p (k + j) (.slice ad n0 c0) B wr cur)
      have hj9 : (j : Int) < 9 := by omega
      clear cur b1
      have hbx : 0 ≤ byteX B (k + j) ∧ byteX B (k + j) ≤ 255 := by
        unfold byteX
        cases hx : B[k + j]? with
        | none => simp
        | some x => exact HBY.out x (List.mem_of_getElem? hx)
      have HRS : Hid (∀ f, 9 - j = f + 1 → varR B (9 - j) j a (k + j) = if k + j < B.length then
      if 128 ≤ byteX B (k + j) then varR B f (j + 1) (a + (byteX B (k + j)).toNat % 128 * 2 ^ (7 * j)) (k + j + 1)
      else if byteX B (k + j) = 0 ∧ 0 < j then (0, 5, k + j + 1)
      else if 4611686018427387903 < a + (byteX B (k + j)).toNat % 128 * 2 ^ (7 * j) then (0, 18, k + j + 1)
      else (a + (byteX B (k + j)).toNat % 128 * 2 ^ (7 * j), 0, k + j + 1)
    else (0, 3, k + j)) := fun f hf => by rw [hf]; rfl
      by_cases hin : k + j < B.length
      · have eE : byteE B (k + j) = 0 := if_pos hin
        have eK : byteK B (k + j) = k + j + 1 := if_pos hin
        rw [eE, eK] at HBT
        generalize byteX B (k + j) = x at *
        have hand := and127 hbx.1 hbx.2
        obtain ⟨o1, o2, o3, o4⟩ := or_shl (x := x.toNat % 128) (by omega : j ≤ 8) ha.out (by omega)
        have hsh : IntKind.u64.wrap (x % 128 * 2 ^ (7 * j)) = ((x.toNat % 128 * 2 ^ (7 * j) : Nat) : Int) := by
          have e : (x % 128 * 2 ^ (7 * j) : Int) = ((x.toNat % 128 * 2 ^ (7 * j) : Nat) : Int) := by
            rw [Int.natCast_mul, Int.natCast_emod, Int.toNat_of_nonneg hbx.1]
            congr 1
          rw [e, IntKind.wrap_u64]
          omega
        generalize x.toNat % 128 * 2 ^ (7 * j) = y at *
        obtain ⟨q, hq⟩ : ∃ q, q = a + y := ⟨_, rfl⟩
        rw [← hq] at o1 o2 HRS
        have O2 := Lib.hid o2
        have HQ := Lib.hid hq
        clear eE eK o2 o3 o4 hq ha
        have HR2 : Hid ((X, E, K) = if 128 ≤ x then varR B (8 - j) (j + 1) q (k + j + 1) else if x = 0 ∧ 0 < j then (0, 5, k + j + 1) else if 4611686018427387903 < q then (0, 18, k + j + 1) else (q, 0, k + j + 1)) := by
          have := hR.out
          rw [HRS.out (8 - j) (by omega), if_pos hin] at this
          exact this
        clear HRS hR
        by_cases hx1 : 128 ≤ x
        · have hr := HR2.out
          rw [if_pos hx1] at hr
          have HR3 := Lib.hid hr
          clear hr HR2
          go_wp2_with (go_at_call 58; refine HBT.out.mono ?_; rintro e w2 ⟨rfl, cur2, k2⟩)
          refine ⟨⟨j + 1, q, by omega, rfl, rfl, O2.out, ?_, ?_, kk.trans k2 (fun i hi _ => hi)⟩, ?_⟩
          · show _ = varR B (9 - (j + 1)) (j + 1) q (k + (j + 1))
            rw [show 9 - (j + 1) = 8 - j by omega, show k + (j + 1) = k + j + 1 by omega]
            exact HR3.out
          · rw [show k + (j + 1) = k + j + 1 by omega]; exact cur2
          · simp [intOf]; omega
        · have hx1' : decide (128 ≤ x) = false := decide_eq_false hx1
          by_cases hx0 : x = 0 ∧ 0 < j
          · have hr := HR2.out
            rw [if_neg hx1, if_pos hx0] at hr
            obtain ⟨rfl, hj0⟩ := hx0
            cases hr
            have hj0' : (0 : Int) < (j : Int) := by omega
            clear HR2
            go_wp2_with (go_at_call 58; refine HBT.out.mono ?_; rintro e w2 ⟨rfl, cur2, k2⟩)
            exact bodyPost_ret (v := .tuple #[.int .u64 (0), .int .i64 5]) (by simp [results, Tryz.results128]) rfl ⟨rfl, cur2, kk.trans k2 (fun i hi _ => hi)⟩
          · have hr := HR2.out
            rw [if_neg hx1, if_neg hx0] at hr
            have hguard : (x == 0) = false ∨ ((x == 0) = true ∧ ¬ 0 < j) := by
              by_cases hz : x = 0
              · exact .inr ⟨by simp [hz], by omega⟩
              · exact .inl (by simpa using hz)
            clear HR2
            by_cases hbig : 4611686018427387903 < q
            · have hbig' : (4611686018427387903 : Int) < (q : Int) := by omega
              rw [if_pos hbig] at hr
              cases hr
              rcases hguard with hg | ⟨hg, hg2⟩
              all_goals
                go_wp2_with (go_at_call 58; refine HBT.out.mono ?_; rintro e w2 ⟨rfl, cur2, k2⟩)
                all_goals (first | (exfalso; omega) | exact bodyPost_ret (v := .tuple #[.int .u64 (0), .int .i64 18]) (by simp [results, Tryz.results128]) rfl ⟨rfl, cur2, kk.trans k2 (fun i hi _ => hi)⟩)
            · have hbig' : decide ((4611686018427387903 : Int) < (q : Int)) = false := decide_eq_false (by omega)
              rw [if_neg hbig] at hr
              cases hr
              rcases hguard with hg | ⟨hg, hg2⟩
              all_goals
                go_wp2_with (go_at_call 58; refine HBT.out.mono ?_; rintro e w2 ⟨rfl, cur2, k2⟩)
                all_goals (first | (exfalso; omega) | exact bodyPost_ret (v := .tuple #[.int .u64 (X : Int), .int .i64 0]) (by simp [results, Tryz.results128]) rfl ⟨rfl, cur2, kk.trans k2 (fun i hi _ => hi)⟩)
      · have eE : byteE B (k + j) = 3 := if_neg hin
        have eK : byteK B (k + j) = k + j := if_neg hin
        rw [eE, eK] at HBT
        have hr := hR.out
        rw [HRS.out (8 - j) (by omega), if_neg hin] at hr
        cases hr
        generalize byteX B (k + j) = x at *
        clear eE eK HRS hR
        go_wp2_with (go_at_call 58; refine HBT.out.mono ?_; rintro e w2 ⟨rfl, cur2, k2⟩)
        exact bodyPost_ret (v := .tuple #[.int .u64 (0), .int .i64 3]) (by simp [results, Tryz.results128]) rfl ⟨rfl, cur2, kk.trans k2 (fun i hi _ => hi)⟩
    · obtain rfl : j = 9 := by omega
      have hr := hR.out
      cases hr
      have CUR := Lib.hid cur
      clear cur hR ha
      go_wp2_with fail
      exact bodyPost_ret (v := .tuple #[.int .u64 (0), .int .i64 18]) (by simp [results, Tryz.results128]) rfl ⟨rfl, CUR.out, kk⟩

theorem varR_zero (B : List Int) : ∀ (f i a k : Nat), (varR B f i a k).2.1 ≠ 0 → (varR B f i a k).1 = 0
  | 0, _, _, _, _ => rfl
  | f + 1, i, a, k, h => by
    unfold varR at h ⊢
    split at h
    · rename_i hk
      rw [if_pos hk]
      split at h
      · rename_i hx; rw [if_pos hx]; exact varR_zero B f _ _ _ h
      · rename_i hx
        rw [if_neg hx]
        split at h
        · rename_i h0; rw [if_pos h0]
        · rename_i h0
          rw [if_neg h0]
          split at h
          · rename_i hb; rw [if_pos hb]
          · exact absurd rfl h
    · rename_i hk; rw [if_neg hk]

/-- A varint at k: the number, the error, the position behind it. -/
def varX (B : List Int) (k : Nat) : Nat := (varR B 9 0 0 k).1
def varE (B : List Int) (k : Nat) : Int := (varR B 9 0 0 k).2.1
def varK (B : List Int) (k : Nat) : Nat := if varE B k = 0 then (varR B 9 0 0 k).2.2 else k

set_option maxRecDepth 100000 in
theorem varint_any (p k : Nat) (v : Value) (B : List Int) (w : World) (hc : Cur w p v B k) :
    Calls Tryz.prog 99 #[.pointer (some ⟨p, 0, none⟩)] w (CurEnd w p v B (.int .u64 (varX B k : Int)) (varE B k) (varK B k)) := by
  have hp := hc.old.1
  have k0 : Keeps w (w.alloc (.cells #[.pointer (some ⟨p, 0, none⟩)] 44)) [] := (Keeps.refl w []).alloc _
  have b0 := Blk.new w #[.pointer (some ⟨p, 0, none⟩)] 44
  have h := readU64_any p k (varR B 9 0 0 k).2.2 v B (w.alloc (.cells #[.pointer (some ⟨p, 0, none⟩)] 44)) #[.pointer (some ⟨w.heap.size, 0, none⟩)] ((varR B 9 0 0 k).1 : Int) (varR B 9 0 0 k).2.1 (hc.keeps k0)
    (fun w1 k1 => varint1_any p w.heap.size k v B w1 ((hc.keeps k0).keeps k1) (b0.keeps k1 (by simp)) (by omega))
  have e1 : (if (varR B 9 0 0 k).2.1 = 0 then ((varR B 9 0 0 k).1 : Int) else 0) = (varX B k : Int) := by
    unfold varX
    split
    · rfl
    · rename_i hne; rw [varR_zero B 9 0 0 k hne]; rfl
  rw [e1] at h
  have H : Hid (Calls Tryz.prog 127 #[.pointer (some ⟨p, 0, none⟩), .func (.func 128) #[] #[.pointer (some ⟨w.heap.size, 0, none⟩)]] (w.alloc (.cells #[.pointer (some ⟨p, 0, none⟩)] 44))
    (CurEnd (w.alloc (.cells #[.pointer (some ⟨p, 0, none⟩)] 44)) p v B (.int .u64 (varX B k : Int)) (varE B k) (varK B k))) := h
  clear h hc e1
  generalize varX B k = X at *
  generalize varE B k = E at *
  generalize varK B k = K' at *
  go_enter Tryz.func99, Tryz.ntmps99
  go_wp2_with (refine H.out.mono ?_; rintro e w1 ⟨rfl, cur1, k1⟩)
  exact bodyPost_ret (v := .tuple #[.int .u64 (X : Int), .int .i64 E]) (by simp [results, Tryz.results99]) rfl ⟨rfl, cur1, (k0.mono (by simp)).trans k1 (fun j hj _ => hj)⟩
end

section
set_option linter.unusedVariables false
set_option linter.unusedSimpArgs false
set_option linter.unusedSectionVars false
open Go.RowKit

theorem varX_lt {B : List Int} {k : Nat} (h : k ≤ B.length) : varX B k < 4611686018427387904 := (varR_bound B 9 0 0 k h).1
/-- A varint of at most M. -/
def numE (B : List Int) (k M : Nat) : Int := if varE B k = 0 ∧ M < varX B k then 18 else varE B k
def numX (B : List Int) (k M : Nat) : Nat := if numE B k M = 0 then varX B k else 0
def numK (B : List Int) (k M : Nat) : Nat := if numE B k M = 0 then varK B k else k

set_option maxRecDepth 100000 in
set_option maxHeartbeats 4000000 in
theorem number1_any (p h hm k M : Nat) (v : Value) (B : List Int) (w : World) (hc : Cur w p v B k) (hb : Blk w h #[.pointer (some ⟨p, 0, none⟩)] 44) (hq : Blk w hm #[.int .i64 (M : Int)] 3) (hM : M < 4611686018427387904) (hnp : hm ≠ p) :
    Calls Tryz.prog 98 #[.pointer (some ⟨h, 0, none⟩), .pointer (some ⟨hm, 0, none⟩)] w (CurEnd w p v B (.int .i64 (varX B k : Int)) (numE B k M) (varK B k)) := by
  have HV := Lib.hid (varint_any p k v B w hc)
  have hX := varX_lt hc.le
  have HQ := Lib.hid hq
  obtain ⟨b0, -⟩ := hb.one
  have hE : Hid (numE B k M = if varE B k = 0 ∧ M < varX B k then 18 else varE B k) := rfl
  have hmx : max (M : Int) 0 = (M : Int) := by omega
  have hmm : (M : Int) % 18446744073709551616 = (M : Int) := by omega
  clear hc hb hq
  generalize varX B k = X at *
  generalize varE B k = E at *
  generalize varK B k = K at *
  generalize numE B k M = NE at *
  have hwx : IntKind.i64.wrap (X : Int) = (X : Int) := IntWalk.i64_in _ ⟨by omega, by omega⟩
  by_cases h0 : E = 0
  · subst h0
    by_cases hbig : M < X
    · have hbig' : decide ((M : Int) < (X : Int)) = true := decide_eq_true (by omega)
      have he := hE.out
      rw [if_pos ⟨rfl, hbig⟩] at he
      subst he
      go_enter Tryz.func98, Tryz.ntmps98
      go_wp2_with (refine HV.out.mono ?_; rintro e w2 ⟨rfl, cur2, k2⟩; obtain ⟨m0, -⟩ := (HQ.out.keeps k2 (by simpa using hnp)).one)
      exact bodyPost_ret (v := .tuple #[.int .i64 (X : Int), .int .i64 18]) (by simp [results, Tryz.results98]) rfl ⟨rfl, cur2, k2⟩
    · have hbig' : decide ((M : Int) < (X : Int)) = false := decide_eq_false (by omega)
      have he := hE.out
      rw [if_neg (fun h => hbig h.2)] at he
      subst he
      go_enter Tryz.func98, Tryz.ntmps98
      go_wp2_with (refine HV.out.mono ?_; rintro e w2 ⟨rfl, cur2, k2⟩; obtain ⟨m0, -⟩ := (HQ.out.keeps k2 (by simpa using hnp)).one)
      exact bodyPost_ret (v := .tuple #[.int .i64 (X : Int), .int .i64 0]) (by simp [results, Tryz.results98]) rfl ⟨rfl, cur2, k2⟩
  · have hE0 : (E == 0) = false := by simpa using h0
    have he := hE.out
    rw [if_neg (fun h => h0 h.1)] at he
    subst he
    go_enter Tryz.func98, Tryz.ntmps98
    go_wp2_with (refine HV.out.mono ?_; rintro e w2 ⟨rfl, cur2, k2⟩; obtain ⟨m0, -⟩ := (HQ.out.keeps k2 (by simpa using hnp)).one)
    exact bodyPost_ret (v := .tuple #[.int .i64 (X : Int), .int .i64 NE]) (by simp [results, Tryz.results98]) rfl ⟨rfl, cur2, k2⟩

theorem numX_iff (B : List Int) (k M : Nat) : (if numE B k M = 0 then ((varX B k : Nat) : Int) else 0) = ((numX B k M : Nat) : Int) := by
  unfold numX
  split <;> rfl

set_option maxRecDepth 100000 in
theorem number_any (p k M : Nat) (v : Value) (B : List Int) (w : World) (hc : Cur w p v B k) (hM : M < 4611686018427387904) :
    Calls Tryz.prog 74 #[.pointer (some ⟨p, 0, none⟩), .int .i64 (M : Int)] w (CurEnd w p v B (.int .i64 (numX B k M : Int)) (numE B k M) (numK B k M)) := by
  have hp := hc.old.1
  have k0 : Keeps w ((w.alloc (.cells #[.pointer (some ⟨p, 0, none⟩)] 44)).alloc (.cells #[.int .i64 (M : Int)] 3)) [] := ((Keeps.refl w []).alloc _).alloc _
  have b0 := (Blk.new w #[.pointer (some ⟨p, 0, none⟩)] 44).alloc (.cells #[.int .i64 (M : Int)] 3)
  have b1 := Blk.new (w.alloc (.cells #[.pointer (some ⟨p, 0, none⟩)] 44)) #[.int .i64 (M : Int)] 3
  simp only [World.size_alloc] at b1
  have h := readInt_any p k (varK B k) v B ((w.alloc (.cells #[.pointer (some ⟨p, 0, none⟩)] 44)).alloc (.cells #[.int .i64 (M : Int)] 3)) #[.pointer (some ⟨w.heap.size, 0, none⟩), .pointer (some ⟨w.heap.size + 1, 0, none⟩)] ((varX B k : Nat) : Int) (numE B k M) (hc.keeps k0)
    (fun w1 k1 => number1_any p w.heap.size (w.heap.size + 1) k M v B w1 ((hc.keeps k0).keeps k1) (b0.keeps k1 (by simp)) (b1.keeps k1 (by simp)) hM (by omega))
  rw [numX_iff] at h
  have H : Hid (Calls Tryz.prog 97 #[.pointer (some ⟨p, 0, none⟩), .func (.func 98) #[] #[.pointer (some ⟨w.heap.size, 0, none⟩), .pointer (some ⟨w.heap.size + 1, 0, none⟩)]] ((w.alloc (.cells #[.pointer (some ⟨p, 0, none⟩)] 44)).alloc (.cells #[.int .i64 (M : Int)] 3))
    (CurEnd ((w.alloc (.cells #[.pointer (some ⟨p, 0, none⟩)] 44)).alloc (.cells #[.int .i64 (M : Int)] 3)) p v B (.int .i64 (numX B k M : Int)) (numE B k M) (numK B k M))) := h
  clear h hc
  generalize numX B k M = X at *
  generalize numE B k M = E at *
  generalize numK B k M = K' at *
  go_enter Tryz.func74, Tryz.ntmps74
  go_wp2_with (refine H.out.mono ?_; rintro e w1 ⟨rfl, cur1, k1⟩)
  exact bodyPost_ret (v := .tuple #[.int .i64 (X : Int), .int .i64 E]) (by simp [results, Tryz.results74]) rfl ⟨rfl, cur1, (k0.mono (by simp)).trans k1 (fun j hj _ => hj)⟩

set_option maxRecDepth 100000 in
theorem new_any (v : Value) (B : List Int) (w : World) (hv : RdI .u8 w v B) (hn : B.length ≤ 1000000) (hx : ∀ x ∈ B, 0 ≤ x ∧ x ≤ 255) :
    Calls Tryz.prog 27 #[v] w fun e w' => ∃ p v', e = .returned (.pointer (some ⟨p, 0, none⟩)) ∧ w.heap.size ≤ p ∧ Cur w' p v' B 0 ∧ Keeps w w' [] := by
  have HC := Lib.hid (cloneb_any v B w hv hn)
  obtain ⟨ad, n, c, rfl, -, -⟩ := hv.form
  clear hv
  go_enter Tryz.func27, Tryz.ntmps27
  go_wp2_with (refine HC.out.mono ?_; rintro e w1 ⟨v1, rfl, own1, k1⟩; obtain ⟨a1, c1, rfl⟩ := own_form own1)
  go_ret
  have hs := k1.size
  refine ⟨_, _, rfl, hs, ⟨Blk.new w1 _ _, (own_reads own1).keeps ((Keeps.refl w1 []).alloc _), Nat.zero_le _, hn, ?_, hx⟩, k1.alloc _⟩
  rintro a n' c' he h0 hab
  cases he
  have := (own1.lt _ rfl).2
  omega
end

section
set_option linter.unusedVariables false
set_option linter.unusedSimpArgs false
set_option linter.unusedSectionVars false
open Go.RowKit

/-- A read that panics with the error n, unless n is 0. -/
def RdEnd (w : World) (p : Nat) (v : Value) (B : List Int) (x : Value) (n : Int) (k' : Nat) (e : Ending) (w' : World) : Prop :=
  (n = 0 → e = .returned x) ∧ (n ≠ 0 → e = .panicked [raisedBy n false]) ∧ Cur w' p v B k' ∧ Keeps w w' [p]
def RdEndB (w : World) (p : Nat) (v : Value) (B : List Int) (L : List Int) (n : Int) (k' : Nat) (e : Ending) (w' : World) : Prop :=
  (n = 0 → ∃ r, e = .returned r ∧ RdI .u8 w' r L ∧ Fresh w.heap.size r) ∧ (n ≠ 0 → e = .panicked [raisedBy n false]) ∧ Cur w' p v B k' ∧ Keeps w w' [p]

set_option maxRecDepth 100000 in
set_option maxHeartbeats 2000000 in
theorem wreadInt_any (p k' : Nat) (v : Value) (B : List Int) (w : World) (fs lb : Array Value) (x : Int) (n : Int)
    (hg : Calls Tryz.prog 73 (lb) w (CurEnd w p v B (.int .i64 x) n k')) :
    Calls Tryz.prog 72 #[.func (.func 73) #[] lb] w (RdEnd w p v B (.int .i64 x) n k') := by
  have HG := Lib.hid hg
  clear hg
  by_cases hn : n = 0
  · subst hn
    go_enter Tryz.func72, Tryz.ntmps72
    go_wp2_with (first | (go_at_call 73; refine HG.out.mono ?_; rintro e w1 ⟨rfl, cur1, k1⟩) | (go_at_call 63; refine (wmust_yes _ _ (Blk.newA rfl)).mono ?_; rintro e w5 ⟨rfl, rfl⟩))
    go_ret
    exact ⟨fun _ => rfl, (fun h => absurd rfl h), cur1.keeps ((Keeps.refl _ _).alloc _), k1.alloc _⟩
  · go_enter Tryz.func72, Tryz.ntmps72
    go_wp2_with (first | (go_at_call 73; refine HG.out.mono ?_; rintro e w1 ⟨rfl, cur1, k1⟩) | (go_at_call 63; refine (wmust_no n hn _ _ (Blk.newA rfl)).mono ?_; rintro e w5 ⟨rfl, rfl⟩))
    exact ⟨rfl, (fun h => absurd h hn), fun _ => rfl, cur1.keeps ((Keeps.refl _ _).alloc _), k1.alloc _⟩

set_option maxRecDepth 100000 in
set_option maxHeartbeats 2000000 in
theorem wreadBytes_any (p k' : Nat) (v : Value) (B : List Int) (w : World) (fs lb : Array Value) (L : List Int) (n : Int)
    (hg : Calls Tryz.prog 101 (lb) w (CurB w p v B L n k')) :
    Calls Tryz.prog 100 #[.func (.func 101) #[] lb] w (RdEndB w p v B L n k') := by
  have HG := Lib.hid hg
  clear hg
  by_cases hn : n = 0
  · subst hn
    go_enter Tryz.func100, Tryz.ntmps100
    go_wp2_with (first | (go_at_call 101; refine HG.out.mono ?_; rintro e w1 ⟨r1, rfl, rd1, fr1, cur1, k1⟩) | (go_at_call 63; refine (wmust_yes _ _ (Blk.newA rfl)).mono ?_; rintro e w5 ⟨rfl, rfl⟩))
    go_ret
    exact ⟨fun _ => ⟨_, rfl, rd1.keeps ((Keeps.refl _ _).alloc _), fr1⟩, (fun h => absurd rfl h), cur1.keeps ((Keeps.refl _ _).alloc _), k1.alloc _⟩
  · go_enter Tryz.func100, Tryz.ntmps100
    go_wp2_with (first | (go_at_call 101; refine HG.out.mono ?_; rintro e w1 ⟨r1, rfl, rd1, fr1, cur1, k1⟩) | (go_at_call 63; refine (wmust_no n hn _ _ (Blk.newA rfl)).mono ?_; rintro e w5 ⟨rfl, rfl⟩))
    exact ⟨rfl, (fun h => absurd h hn), fun _ => rfl, cur1.keeps ((Keeps.refl _ _).alloc _), k1.alloc _⟩

set_option maxRecDepth 100000 in
set_option maxHeartbeats 2000000 in
theorem wreadByte_any (p k' : Nat) (v : Value) (B : List Int) (w : World) (fs lb : Array Value) (x : Int) (n : Int)
    (hg : Calls Tryz.prog 58 (fs) w (CurEnd w p v B (.int .u8 x) n k')) :
    Calls Tryz.prog 57 #[.func (.func 58) fs #[]] w (RdEnd w p v B (.int .u8 x) n k') := by
  have HG := Lib.hid hg
  clear hg
  by_cases hn : n = 0
  · subst hn
    go_enter Tryz.func57, Tryz.ntmps57
    go_wp2_with (first | (go_at_call 58; refine HG.out.mono ?_; rintro e w1 ⟨rfl, cur1, k1⟩) | (go_at_call 63; refine (wmust_yes _ _ (Blk.newA rfl)).mono ?_; rintro e w5 ⟨rfl, rfl⟩))
    go_ret
    exact ⟨fun _ => rfl, (fun h => absurd rfl h), cur1.keeps ((Keeps.refl _ _).alloc _), k1.alloc _⟩
  · go_enter Tryz.func57, Tryz.ntmps57
    go_wp2_with (first | (go_at_call 58; refine HG.out.mono ?_; rintro e w1 ⟨rfl, cur1, k1⟩) | (go_at_call 63; refine (wmust_no n hn _ _ (Blk.newA rfl)).mono ?_; rintro e w5 ⟨rfl, rfl⟩))
    exact ⟨rfl, (fun h => absurd h hn), fun _ => rfl, cur1.keeps ((Keeps.refl _ _).alloc _), k1.alloc _⟩

set_option maxRecDepth 100000 in
theorem rnumber1_any (p k hr hm M : Nat)  (v : Value) (B : List Int) (w : World) (hc : Cur w p v B k) (hb : Blk w hr #[.pointer (some ⟨p, 0, none⟩)] 73) (hq : Blk w hm #[.int .i64 (M : Int)] 3) (hM : M < 4611686018427387904) :
    Calls Tryz.prog 73 #[.pointer (some ⟨hr, 0, none⟩), .pointer (some ⟨hm, 0, none⟩)] w (CurEnd w p v B (.int .i64 (numX B k M : Int)) (numE B k M) (numK B k M)) := by
  have H := Lib.hid (number_any p k M v B w hc hM)
  obtain ⟨b0, -⟩ := hb.one
  obtain ⟨m0, -⟩ := hq.one
  clear hc hb hq
  generalize numX B k M = X at *
  generalize numE B k M = E at *
  generalize numK B k M = K at *
  go_enter Tryz.func73, Tryz.ntmps73
  go_wp2_with (refine H.out.mono ?_; rintro e w1 ⟨rfl, cur1, k1⟩)
  exact bodyPost_ret (v := .tuple #[.int .i64 (X : Int), .int .i64 E]) (by simp [results, Tryz.results73]) rfl ⟨rfl, cur1, k1⟩

set_option maxRecDepth 100000 in
theorem rnumber_any (p k M : Nat)  (v : Value) (B : List Int) (w : World) (hc : Cur w p v B k) (hM : M < 4611686018427387904) :
    Calls Tryz.prog 53 #[.agg #[.pointer (some ⟨p, 0, none⟩)], .int .i64 (M : Int)] w (RdEnd w p v B (.int .i64 (numX B k M : Int)) (numE B k M) (numK B k M)) := by
  have k0 : Keeps w ((w.alloc (.cells #[.pointer (some ⟨p, 0, none⟩)] 73)).alloc (.cells #[.int .i64 (M : Int)] 3)) [] := ((Keeps.refl w []).alloc _).alloc _
  have b0 := (Blk.new w #[.pointer (some ⟨p, 0, none⟩)] 73).alloc (.cells #[.int .i64 (M : Int)] 3)
  have b1 := Blk.new (w.alloc (.cells #[.pointer (some ⟨p, 0, none⟩)] 73)) #[.int .i64 (M : Int)] 3
  simp only [World.size_alloc] at b1
  have H := Lib.hid (wreadInt_any p _ v B _ #[] _ _ _ (rnumber1_any p k w.heap.size (w.heap.size + 1) M v B _ (hc.keeps k0) b0 b1 hM))
  have hs0 := k0.size
  clear hc b0 b1
  generalize numX B k M = X at *
  generalize numE B k M = E at *
  generalize numK B k M = K at *
  by_cases hE : E = 0
  · subst hE
    go_enter Tryz.func53, Tryz.ntmps53
    go_wp2_with (refine H.out.mono ?_; rintro e w1 ⟨he, -, cur1, k1⟩; obtain rfl := he rfl)
    go_ret
    exact ⟨fun _ => rfl, (fun h => absurd rfl h), cur1, (k0.mono (by simp)).trans k1 (fun j hj _ => hj)⟩
  · go_enter Tryz.func53, Tryz.ntmps53
    go_wp2_with (refine H.out.mono ?_; rintro e w1 ⟨-, he, cur1, k1⟩; obtain rfl := he hE)
    exact ⟨rfl, (fun h => absurd h hE), fun _ => rfl, cur1, (k0.mono (by simp)).trans k1 (fun j hj _ => hj)⟩

set_option maxRecDepth 100000 in
theorem rbytes1_any (p k hr hm  : Nat) (m : Int) (v : Value) (B : List Int) (w : World) (hc : Cur w p v B k) (hb : Blk w hr #[.pointer (some ⟨p, 0, none⟩)] 73) (hq : Blk w hm #[.int .i64 m] 3) :
    Calls Tryz.prog 101 #[.pointer (some ⟨hr, 0, none⟩), .pointer (some ⟨hm, 0, none⟩)] w (CurB w p v B (bytesX B k m) (bytesE B k m) (bytesK B k m)) := by
  have H := Lib.hid (bytes_any p k m v B w hc)
  obtain ⟨b0, -⟩ := hb.one
  obtain ⟨m0, -⟩ := hq.one
  clear hc hb hq
  generalize bytesX B k m = X at *
  generalize bytesE B k m = E at *
  generalize bytesK B k m = K at *
  go_enter Tryz.func101, Tryz.ntmps101
  go_wp2_with (refine H.out.mono ?_; rintro e w1 ⟨r1, rfl, rd1, fr1, cur1, k1⟩)
  exact bodyPost_ret (v := .tuple #[r1, .int .i64 E]) (by simp [results, Tryz.results101]) rfl ⟨r1, rfl, rd1, fr1, cur1, k1⟩

set_option maxRecDepth 100000 in
theorem rbytes_any (p k  : Nat) (m : Int) (v : Value) (B : List Int) (w : World) (hc : Cur w p v B k) :
    Calls Tryz.prog 75 #[.agg #[.pointer (some ⟨p, 0, none⟩)], .int .i64 m] w (RdEndB w p v B (bytesX B k m) (bytesE B k m) (bytesK B k m)) := by
  have k0 : Keeps w ((w.alloc (.cells #[.pointer (some ⟨p, 0, none⟩)] 73)).alloc (.cells #[.int .i64 m] 3)) [] := ((Keeps.refl w []).alloc _).alloc _
  have b0 := (Blk.new w #[.pointer (some ⟨p, 0, none⟩)] 73).alloc (.cells #[.int .i64 m] 3)
  have b1 := Blk.new (w.alloc (.cells #[.pointer (some ⟨p, 0, none⟩)] 73)) #[.int .i64 m] 3
  simp only [World.size_alloc] at b1
  have H := Lib.hid (wreadBytes_any p _ v B _ #[] _ _ _ (rbytes1_any p k w.heap.size (w.heap.size + 1) m v B _ (hc.keeps k0) b0 b1))
  have hs0 := k0.size
  clear hc b0 b1
  generalize bytesX B k m = X at *
  generalize bytesE B k m = E at *
  generalize bytesK B k m = K at *
  by_cases hE : E = 0
  · subst hE
    go_enter Tryz.func75, Tryz.ntmps75
    go_wp2_with (refine H.out.mono ?_; rintro e w1 ⟨he, -, cur1, k1⟩; obtain ⟨r1, rfl, rd1, fr1⟩ := he rfl)
    go_ret
    exact ⟨fun _ => ⟨r1, rfl, rd1, fr1.mono hs0⟩, (fun h => absurd rfl h), cur1, (k0.mono (by simp)).trans k1 (fun j hj _ => hj)⟩
  · go_enter Tryz.func75, Tryz.ntmps75
    go_wp2_with (refine H.out.mono ?_; rintro e w1 ⟨-, he, cur1, k1⟩; obtain rfl := he hE)
    exact ⟨rfl, (fun h => absurd h hE), fun _ => rfl, cur1, (k0.mono (by simp)).trans k1 (fun j hj _ => hj)⟩
end

section
set_option linter.unusedVariables false
set_option linter.unusedSimpArgs false
open Go.RowKit

def nibF : List Int → List Int
  | [] => []
  | [a] => [a]
  | a :: b :: l => (a + 16 * b) :: nibF l
theorem nib_even (l : List Int) : ∀ x : Int, l.length % 2 = 0 → nibF (l ++ [x]) = nibF l ++ [x] := by
  induction l using nibF.induct with
  | case1 => intro x _; rfl
  | case2 a => intro x h; simp at h
  | case3 a b l ih =>
    intro x h
    simp only [List.cons_append, nibF, ih x (by simp only [List.length_cons] at h; omega)]
theorem nib_two (l : List Int) : ∀ x y : Int, l.length % 2 = 0 → nibF (l ++ [x, y]) = nibF l ++ [x + 16 * y] := by
  induction l using nibF.induct with
  | case1 => intro x y _; rfl
  | case2 a => intro x y h; simp at h
  | case3 a b l ih =>
    intro x y h
    simp only [List.cons_append, nibF, ih x y (by simp only [List.length_cons] at h; omega)]
theorem nib_len (l : List Int) : (nibF l).length = (l.length + 1) / 2 := by
  induction l using nibF.induct with
  | case1 => rfl
  | case2 a => simp [nibF]
  | case3 a b l ih => simp only [nibF, List.length_cons, ih]; omega
theorem nib_take1 {l : List Int} {k : Nat} {x : Int} (h : l[k]? = some x) (hk : k % 2 = 0) : nibF (l.take (k + 1)) = nibF (l.take k) ++ [x] := by
  have hlt := (List.getElem?_eq_some_iff.1 h).1
  rw [take_next h]
  exact nib_even _ _ (by simp; omega)
theorem nib_take2 {l : List Int} {k : Nat} {x y : Int} (h : l[k]? = some x) (h' : l[k + 1]? = some y) (hk : k % 2 = 0) : nibF (l.take (k + 2)) = nibF (l.take k) ++ [x + 16 * y] := by
  have hlt := (List.getElem?_eq_some_iff.1 h).1
  rw [take_next h', take_next h, List.append_assoc]
  exact nib_two _ _ _ (by simp; omega)
theorem nib_set {l : List Int} {k : Nat} {x y : Int} (hd : List Int) (h : l[k]? = some x) (h' : l[k + 1]? = some y) (hk : k % 2 = 0) :
    (hd ++ nibF (l.take (k + 1)))[(hd ++ nibF (l.take (k + 1))).length - 1]? = some x ∧ (hd ++ nibF (l.take (k + 1))).set ((hd ++ nibF (l.take (k + 1))).length - 1) (x + 16 * y) = hd ++ nibF (l.take (k + 2)) := by
  rw [nib_take1 h hk, nib_take2 h h' hk, ← List.append_assoc, ← List.append_assoc]
  generalize hd ++ nibF (l.take k) = A
  have e : (A ++ [x]).length - 1 = A.length := by simp
  rw [e]
  constructor
  · simp
  · rw [List.set_append_right _ _ (Nat.le_refl _), Nat.sub_self]; rfl
/-- A description in format 0. -/
def halvesL (w : List Int) : List Int := varI w.length ++ [0] ++ nibF w
theorem nib_byte {l : List Int} (h : ∀ x ∈ l, 0 ≤ x ∧ x ≤ 15) : ∀ x ∈ nibF l, 0 ≤ x ∧ x ≤ 255 := by
  induction l using nibF.induct with
  | case1 => intro x hx; cases hx
  | case2 a => intro x hx; have := h a (by simp); simp [nibF] at hx; omega
  | case3 a b l ih =>
    intro x hx
    have h1 := h a (by simp)
    have h2 := h b (by simp)
    rcases List.mem_cons.1 hx with rfl | hx
    · omega
    · exact ih (fun y hy => h y (by simp [hy])) x hx
theorem halves_byte {l : List Int} (h : ∀ x ∈ l, 0 ≤ x ∧ x ≤ 15) : ∀ x ∈ halvesL l, 0 ≤ x ∧ x ≤ 255 := by
  intro x hx
  rcases List.mem_append.1 hx with hx | hx
  · rcases List.mem_append.1 hx with hx | hx
    · exact varI_byte hx
    · have := List.mem_singleton.1 hx; omega
  · exact nib_byte h x hx
theorem halves_len (l : List Int) : (halvesL l).length = (varI l.length).length + 1 + (l.length + 1) / 2 := by simp [halvesL, nib_len]; omega

/-- The two halves of a byte are laid together. -/
theorem or_nib_all : ∀ a : Fin 16, ∀ b : Fin 16, bits BinOp.or IntKind.u8 ((a.val : Nat) : Int) ((b.val * 16 : Nat) : Int) = ((a.val + 16 * b.val : Nat) : Int) := by decide +kernel
theorem or_nib {x y : Int} (h1 : 0 ≤ x) (h2 : x ≤ 15) (h3 : 0 ≤ y) (h4 : y ≤ 15) : bits BinOp.or IntKind.u8 x (y * 16) = x + 16 * y := by
  obtain ⟨a, rfl⟩ := Int.eq_ofNat_of_zero_le h1
  obtain ⟨b, rfl⟩ := Int.eq_ofNat_of_zero_le h3
  have h := or_nib_all ⟨a, by omega⟩ ⟨b, by omega⟩
  simp only [Int.natCast_mul, Int.natCast_add] at h
  exact h

/-- A row of bytes in a block of its own. -/
def RowB (w : World) (base g n c : Nat) (L : List Int) : Prop := L.length = n ∧ w.ownsRow base 5 1 (.slice (some ⟨g, 0, none⟩) n c) n (L.map (.int .u8))
section
variable {w w' : World} {base g n c : Nat} {L : List Int}
theorem RowB.at (h : RowB w base g n c L) {i : Nat} {x : Int} (hx : L[i]? = some x) : w.cell? ⟨g, i, none⟩ = some (.int .u8 x) := by
  have hlt := (List.getElem?_eq_some_iff.1 hx).1
  rw [h.2.cellAt i (by have := h.1; omega), List.getElem?_map, hx]; rfl
theorem RowB.frozen (h : RowB w base g n c L) (i : Nat) : w.frozen? ⟨g, i, none⟩ = false := h.2.frozenAt i
theorem RowB.cap (h : RowB w base g n c L) : n ≤ c := by
  rcases h.2.2 with ⟨h1, h2⟩ | ⟨g', cp, cur, h1, -, -, h4, -⟩
  · cases h1
  · cases h1; exact h4
theorem RowB.lt (h : RowB w base g n c L) : base ≤ g ∧ g < w.heap.size := h.2.lt g rfl
theorem RowB.set (h : RowB w base g n c L) (i : Nat) (x : Int) : RowB (w.setCell ⟨g, i, none⟩ (.int .u8 x)) base g n c (L.set i x) :=
  ⟨by rw [List.length_set]; exact h.1, by rw [List.map_set]; exact (h.2.stored i _).1⟩
theorem RowB.keeps {S : List Nat} (h : RowB w base g n c L) (k : Keeps w w' S) (hn : g ∉ S) : RowB w' base g n c L := by
  refine ⟨h.1, ?_⟩
  obtain ⟨h1, h2⟩ := h.2
  refine ⟨h1, ?_⟩
  rcases h2 with h2 | ⟨g', cp, cur, e, hg, hb, r⟩
  · exact .inl h2
  · cases e
    exact .inr ⟨g, c, cur, rfl, hg, (k.block g (Array.getElem?_eq_some_iff.1 hb).1 hn).trans hb, r⟩
end
theorem rowB_own {w : World} {base n c : Nat} {a : Option Addr} {L : List Int} (hl : L.length = n) (h0 : 0 < n) (h : w.ownsRow base 5 1 (.slice a n c) n (L.map (.int .u8))) : ∃ g, a = some ⟨g, 0, none⟩ ∧ RowB w base g n c L := by
  rcases h.2 with ⟨h1, h2⟩ | ⟨g, cp, cur, h1, h2⟩
  · omega
  · cases h1
    exact ⟨g, rfl, hl, h⟩
end

section
set_option linter.unusedVariables false
set_option linter.unusedSimpArgs false
set_option linter.unusedSectionVars false
open Go.RowKit

theorem one_news {w : World} {b : Nat} {v : Value} {T : TypeId} (h : Blk w b #[v] T) : ∀ (j : Nat) (u : Value), [v][j]? = some u → w.cell? (Addr.add ⟨b, 0, none⟩ j) = some u := fun j u hj => by
  cases j with
  | zero =>
    obtain rfl : v = u := by simpa using hj
    exact h.cell 0
  | succ j => simp at hj

theorem keeps_row {w0 w1 w2 : World} {v : Value} (h : Keeps w0 w1 []) (k : Keeps w1 w2 (match v.ownBlock with | some g => [g] | none => [])) (hge : ∀ g, v.ownBlock = some g → w0.heap.size ≤ g) : Keeps w0 w2 [] :=
  h.trans k (fun j hj hlt => by
    cases hv : v.ownBlock with
    | none => rw [hv] at hj; simp at hj
    | some g => rw [hv] at hj; simp at hj; have := hge g hv; omega)

/-- append of one byte, just laid, to a slice of the call's own. -/
theorem wpList_app1 {P : Program} {w : World} {ops : Array Oper} {rest : List Oper} {o : Oper} {a : Act} {Q : Exit → Act → World → Prop} (hg : o.guard = none) (s x : Operand) (t : TypeId)
    (ho : o.op = .call { callee := .builtin .append, args := #[s, x], argTypes := #[t, t] })
    (base : Nat) (i : TypeInfo) (ht : P.underlying t = some (.slice 5)) (hi : P.info? 5 = some i) (hz : i.zero = some (.int .u8 0)) (hsize : i.size = 1) (hby : i.bytes = 1)
    (v : Value) (n : Nat) (L : List Int) (y : Int) (B : Nat) (hs : a.eval s = v) (hx : a.eval x = .slice (some ⟨B, 0, none⟩) 1 1) (hB : w.heap.size = B)
    (hown : w.ownsRow base 5 1 v n (L.map (.int .u8))) (h63 : n ≤ 10000000) (hbase : base ≤ w.heap.size)
    (h : ∀ a' c' w', w'.ownsRow base 5 1 (.slice a' (n + 1) c') (n + 1) ((L ++ [y]).map (.int .u8)) → Keeps w w' (match v.ownBlock with | some g => [g] | none => []) → wpList P ops Q rest (a.put o.dst (.slice a' (n + 1) c')) w') :
    wpList P ops Q (o :: rest) a (w.alloc (.cells #[.int .u8 y] 5)) := by
  subst hB
  refine wpList_append_own _ hg s x t ho base _ i (.int .u8 0) 1 1 ht hi hz hsize hby rfl (by decide) v n (L.map (.int .u8)) hs (own_keeps hown ((Keeps.refl w []).alloc _)) _ 1 1 [.int .u8 y] hx rfl (one_news (Blk.new w _ _)) (by simp [Value.oneCell']) (by unfold maxLen; omega) (by omega) (by simp; omega) ?_
  intro v3 w3 h3 g3 _
  obtain ⟨a3, c3, rfl⟩ := own_form h3
  refine h a3 c3 w3 ?_ ?_
  · have : L.map (Value.int .u8) ++ [.int .u8 y] = (L ++ [y]).map (Value.int .u8) := by simp
    rw [this] at h3
    exact h3
  · exact ((Keeps.refl w _).alloc _).trans (Keeps.of_grown g3 (fun k hk => by rw [hk]; simp)) (fun j hj _ => hj)

set_option maxRecDepth 100000 in
set_option maxHeartbeats 2000000 in
theorem whead_any (v : Value) (l : List Int) (way : Int) (w : World) (hv : RdI .i64 w v l) (hl : l.length ≤ 1000000) (h0 : 0 ≤ way) (h1 : way ≤ 255) :
    Calls Tryz.prog 112 #[v, .int .u8 way] w fun e w' => ∃ v', e = .returned v' ∧ OwnB w' w.heap.size v' (varI l.length ++ [way]) ∧ Keeps w w' [] := by
  obtain ⟨i0, hi, hz0, hz1, hz2⟩ := info_parts Tryz.infoByte
  obtain ⟨ad, n, c, rfl, rfl, -⟩ := hv.form
  clear hv
  have HP := Lib.hid (putVarint_any (.slice none 0 0) [] l.length w .nil (by simp) (by omega))
  have HPE : Hid (∀ e w', PutEnd w [] l.length e w' → ∃ v, e = .returned (.tuple #[v, .int .i64 0]) ∧ OwnB w' w.heap.size v (varI l.length) ∧ Keeps w w' []) := fun e w' h => by
    unfold PutEnd at h
    rw [if_neg (by omega)] at h
    simpa using h
  have hlen := varI_len 9 l.length (by omega)
  have hm : (l.length : Int) % 18446744073709551616 = l.length := by omega
  generalize l.length = N at *
  generalize varI N = L at *
  go_enter Tryz.func112, Tryz.ntmps112
  go_wp2_with (go_at_call 118; refine HP.out.mono ?_; intro e w1 he; obtain ⟨v1, rfl, own1, k1⟩ := HPE.out e w1 he; obtain ⟨a1, c1, rfl⟩ := own_form own1)
  refine (wmust_yes _ _ (Blk.newA rfl)).mono ?_
  rintro e w5 ⟨rfl, rfl⟩
  have ow := own_keeps own1 ((Keeps.refl w1 []).alloc (.cells #[.int .i64 0] 24))
  have k5 := k1.alloc (.cells #[.int .i64 0] 24)
  have hs5 := k5.size
  have hfin : (L ++ [way]).length = L.length + 1 := by simp
  clear own1 he
  generalize L.length = N1 at *
  have OW := Lib.hid ow
  have HF := Lib.hid hfin
  clear ow hfin
  go_wp2_with (at_builtin; go_loud (refine wpList_app1 (w := w1.alloc (.cells #[.int .i64 0] 24)) rfl _ _ 36 rfl w.heap.size i0 Tryz.underlying36 hi hz0 hz1 hz2 (.slice a1 N1 c1) N1 L way _ rfl rfl (by simp) OW.out (by omega) hs5 ?_; intro a3 c3 w3 own3 k3))
  go_ret
  exact ⟨_, rfl, by unfold OwnB; rw [HF.out]; exact own3, keeps_row k5 k3 (fun g hg => (OW.out.lt g hg).1)⟩

set_option maxRecDepth 100000 in
set_option maxHeartbeats 4000000 in
theorem halved_any (v : Value) (l : List Int) (w : World) (hv : RdI .i64 w v l) (hl : l.length ≤ 1000000) (hx : ∀ x ∈ l, 0 ≤ x ∧ x ≤ 11) :
    Calls Tryz.prog 80 #[v] w fun e w' => ∃ v', e = .returned v' ∧ OwnB w' w.heap.size v' (halvesL l) ∧ Keeps w w' [] := by
  obtain ⟨i0, hi, hz0, hz1, hz2⟩ := info_parts Tryz.infoByte
  have HV := Lib.hid hv
  have HX := Lib.hid hx
  have HH := Lib.hid (whead_any v l 0 w hv hl (by omega) (by omega))
  obtain ⟨ad, n, c, rfl, hn, -⟩ := hv.form
  have HE : Hid (halvesL l = (varI l.length ++ [0]) ++ nibF (l.take n)) := by show _ = _; rw [hn, List.take_length]; rfl
  have hlen := varI_len 9 l.length (by omega)
  have hvp := varI_pos l.length
  have hhl : (varI l.length ++ [0]).length ≤ 11 ∧ 0 < (varI l.length ++ [0]).length := by simp; omega
  generalize varI l.length ++ [0] = hd at *
  have HN := Lib.hid hn
  rw [← hn] at hl
  clear hv hx hn hlen hvp
  go_enter Tryz.func80, Tryz.ntmps80
  go_wp2_with (refine HH.out.mono ?_; rintro e w1 ⟨v1, rfl, own1, k1⟩; obtain ⟨a1, c1, rfl⟩ := own_form own1)
  obtain ⟨g1, rfl, row1⟩ := rowB_own rfl hhl.2 own1
  clear own1 HH
  obtain ⟨N1, hN1⟩ : ∃ N, N = hd.length := ⟨_, rfl⟩
  rw [← hN1] at row1 hhl ⊢
  have HN1 := Lib.hid hN1
  clear hN1
  go_loopw [3, 10] (fun v i wr => ∃ (k g N c : Nat), k ≤ n ∧ i = .int .i64 k ∧ v = .slice (some ⟨g, 0, none⟩) N c ∧ N ≤ 20 + k ∧ 0 < N ∧ RowB wr w.heap.size g N c (hd ++ nibF (l.take k)) ∧ Keeps w wr []) (fun _ i _ => n - (intOf i).toNat)
  case atStart => exact ⟨0, g1, N1, c1, Nat.zero_le _, rfl, rfl, by omega, by omega, by simpa [nibF] using row1, k1⟩
  case round =>
    clear row1 k1
    obtain ⟨k, g, N, c2, hk, rfl, rfl, hN, hN0, row, kk⟩ := hrel
    by_cases hlt : k < n
    · obtain ⟨x, hx⟩ : ∃ x, l[k]? = some x := ⟨_, List.getElem?_eq_getElem (by have := HN.out; omega)⟩
      obtain ⟨b, o, rfl, hb, hc⟩ := HV.out.at hx
      have hc' := (kk.cell (p := ⟨b, o + k, none⟩) hb (by simp)).trans hc
      have hcap := HV.out.cap
      have hxb := HX.out x (List.mem_of_getElem? hx)
      have hkn : (k : Int) < (n : Int) := by omega
      have hm : x % 256 = x := by omega
      have hs := kk.size
      have ROW := Lib.hid row
      by_cases hev : k % 2 = 0
      · have hev' : ((k : Int) % 2 == 0) = true := by simp; omega
        have HT := Lib.hid (nib_take1 hx hev)
        clear hx hc row
        go_wp2_with (at_builtin; go_loud (refine wpList_app1 (w := wr) rfl _ _ 36 rfl w.heap.size i0 Tryz.underlying36 hi hz0 hz1 hz2 (.slice (some ⟨g, 0, none⟩) N c2) N (hd ++ nibF (l.take k)) x _ rfl rfl rfl ROW.out.2 (by omega) hs ?_; intro a3 c3 w3 own3 k3; obtain ⟨g3, rfl, row3⟩ := rowB_own (L := hd ++ nibF (l.take k) ++ [x]) (by have := ROW.out.1; simp only [List.length_append, List.length_singleton] at this ⊢; omega) (Nat.succ_pos _) own3))
        have kk3 := keeps_row kk k3 (fun g' hg => (ROW.out.2.lt g' hg).1)
        rw [List.append_assoc, ← HT.out] at row3
        clear own3 k3
        go_roundw
        case rel => exact ⟨k + 1, g3, N + 1, c3, by omega, by go_num, rfl, by omega, by omega, row3, kk3⟩
        case measure => simp [intOf]; omega
      · obtain ⟨k', rfl⟩ : ∃ k', k = k' + 1 := ⟨k - 1, by omega⟩
        obtain ⟨N', rfl⟩ : ∃ N', N = N' + 1 := ⟨N - 1, by omega⟩
        have hev' : (((k' + 1 : Nat) : Int) % 2 == 0) = false := by simp; omega
        obtain ⟨y, hy⟩ : ∃ y, l[k']? = some y := ⟨_, List.getElem?_eq_getElem (by have := HN.out; omega)⟩
        have hyb := HX.out y (List.mem_of_getElem? hy)
        obtain ⟨q1, q2⟩ := nib_set hd hy hx (by omega)
        have hNl := row.1
        rw [hNl, Nat.add_sub_cancel] at q1 q2
        have cy := row.at q1
        have fy := row.frozen N'
        have hcg := row.cap
        have hgl := row.lt
        have hor := or_nib hyb.1 (by omega) hxb.1 (by omega : x ≤ 15)
        have hw : wrap64 (x * 16) = x * 16 := IntWalk.wrap64_in _ ⟨by omega, by omega⟩
        have hm2 : x * 16 % 256 = x * 16 := by omega
        have row3 := Lib.hid (row.set N' (y + 16 * x))
        rw [q2] at row3
        have kk3 := Lib.hid (kk.setCell (a := ⟨g, N', none⟩) (.inl hgl.1) (.int .u8 (y + 16 * x)))
        clear hx hc row hy q1 q2 hNl
        go_wp2_with fail
        go_roundw
        case rel => exact ⟨k' + 1 + 1, g, N' + 1, c2, by omega, by go_num, rfl, by omega, by omega, row3.out, kk3.out⟩
        case measure => simp [intOf]; omega
    · obtain rfl : k = n := by omega
      rw [← HE.out] at row
      have ROW := Lib.hid row
      have HNN := Lib.hid row.1
      clear row
      go_wp2_with fail
      go_ret
      exact ⟨_, rfl, by unfold OwnB; rw [HNN.out]; exact ROW.out.2, kk⟩
end

section
set_option linter.unusedVariables false
set_option linter.unusedSimpArgs false
set_option linter.unusedSectionVars false
open Go.RowKit

/-- Two numbers out of each byte. -/
def nibX : List Int → List Int
  | [] => []
  | c :: l => c % 16 :: c / 16 :: nibX l
theorem nibX_append (a b : List Int) : nibX (a ++ b) = nibX a ++ nibX b := by
  induction a with
  | nil => rfl
  | cons c a ih => simp [nibX, ih]
theorem nibX_len (l : List Int) : (nibX l).length = 2 * l.length := by
  induction l with
  | nil => rfl
  | cons c l ih => simp only [nibX, List.length_cons, ih]; omega
theorem nibX_next {l : List Int} {k : Nat} {x : Int} (h : l[k]? = some x) : nibX (l.take (k + 1)) = nibX (l.take k) ++ [x % 16, x / 16] := by
  rw [take_next h, nibX_append]; rfl
theorem and15_all : ∀ x : Fin 256, bits BinOp.and IntKind.u8 ((x.val : Nat) : Int) 15 = ((x.val % 16 : Nat) : Int) := by decide +kernel
theorem and15 {x : Int} (h0 : 0 ≤ x) (h1 : x ≤ 255) : bits BinOp.and IntKind.u8 x 15 = x % 16 := by
  obtain ⟨a, rfl⟩ := Int.eq_ofNat_of_zero_le h0
  have h := and15_all ⟨a, by omega⟩
  simpa using h

/-- How halves ends: the numbers, or a panic. -/
def halvE (B : List Int) (k m : Nat) : Int := if bytesE B k (((m + 1) / 2 : Nat) : Int) ≠ 0 then bytesE B k (((m + 1) / 2 : Nat) : Int) else
  if ((nibX (bytesX B k (((m + 1) / 2 : Nat) : Int)))[m]?).getD 0 = 0 then 0 else 12
def halvX (B : List Int) (k m : Nat) : List Int := (nibX (bytesX B k (((m + 1) / 2 : Nat) : Int))).take m
def HalvEnd (w : World) (p : Nat) (v : Value) (B : List Int) (k m : Nat) (e : Ending) (w' : World) : Prop :=
  (halvE B k m = 0 → ∃ r, e = .returned r ∧ RdI .i64 w' r (halvX B k m) ∧ Fresh w.heap.size r) ∧ (halvE B k m ≠ 0 → e = .panicked [raisedBy (halvE B k m) false]) ∧ Cur w' p v B (bytesK B k (((m + 1) / 2 : Nat) : Int)) ∧ Keeps w w' [p]

theorem two_reads {w : World} {x y : Int} : RdI .i64 (w.alloc (.cells #[.int .i64 x, .int .i64 y] 3)) (.slice (some ⟨w.heap.size, 0, none⟩) 2 2) [x, y] := by
  refine ⟨_, _, _, rfl, rfl, (fun h => by cases h), fun _ => ⟨Nat.le_refl _, w.heap.size, 0, rfl, by simp, fun i z hz => ?_⟩⟩
  have hb := Blk.new w #[.int .i64 x, .int .i64 y] 3
  rw [Nat.zero_add, hb.cell]
  rcases i with _ | _ | i
  · simp at hz; subst hz; rfl
  · simp at hz; subst hz; rfl
  · simp at hz

set_option maxRecDepth 100000 in
set_option maxHeartbeats 4000000 in
theorem rhalves_short (p k m : Nat) (v : Value) (B : List Int) (w : World) (hc : Cur w p v B k) (hm : m ≤ 1000) (hE : bytesE B k (((m + 1) / 2 : Nat) : Int) ≠ 0) :
    Calls Tryz.prog 55 #[.agg #[.pointer (some ⟨p, 0, none⟩)], .int .i64 (m : Int)] w (HalvEnd w p v B k m) := by
  have h0 : halvE B k m = bytesE B k (((m + 1) / 2 : Nat) : Int) := if_pos hE
  have hend : Hid (∀ e w', e = .panicked [raisedBy (bytesE B k (((m + 1) / 2 : Nat) : Int)) false] → Cur w' p v B (bytesK B k (((m + 1) / 2 : Nat) : Int)) → Keeps w w' [p] → HalvEnd w p v B k m e w') := fun e w' h1 h2 h3 => ⟨(fun h => absurd (h0 ▸ h) hE), (fun _ => by rw [h0]; exact h1), h2, h3⟩
  have k0 : Keeps w (w.alloc (.cells #[.agg #[.pointer (some ⟨p, 0, none⟩)]] 73)) [] := (Keeps.refl w []).alloc _
  have k0' : Keeps w (w.alloc (.cells #[.pointer (some ⟨p, 0, none⟩)] 73)) [] := (Keeps.refl w []).alloc _
  have H := Lib.hid (rbytes_any p k (((m + 1) / 2 : Nat) : Int) v B _ (hc.keeps k0'))
  obtain ⟨q, hq⟩ : ∃ q, q = (m + 1) / 2 := ⟨_, rfl⟩
  have hqi : ((m : Int) + 1) / 2 = (q : Int) := by omega
  rw [← hq] at H hE hend
  clear hc hq h0
  go_enter Tryz.func55, Tryz.ntmps55
  go_wp2_with (refine H.out.mono ?_; rintro e w1 ⟨-, he, cur1, k1⟩; obtain rfl := he hE)
  exact ⟨rfl, hend.out _ _ rfl cur1 ((k0'.mono (by simp)).trans k1 (fun j hj _ => hj))⟩

theorem bytesX_len {B : List Int} {k q : Nat} (hk : k ≤ B.length) (h : bytesE B k (q : Int) = 0) : (bytesX B k (q : Int)).length = q := by
  have h1 : ¬ (B.length : Int) - (k : Int) < (q : Int) := by
    intro hc
    unfold bytesE at h
    rw [if_neg (by omega), if_pos hc] at h
    cases h
  rw [bytesX, if_pos h, Int.toNat_natCast]
  simp
  omega
theorem bytesX_mem {B : List Int} {k : Nat} {m x : Int} (h : x ∈ bytesX B k m) : x ∈ B := by
  unfold bytesX at h
  split at h
  · exact List.mem_of_mem_drop (List.mem_of_mem_take h)
  · cases h

set_option maxRecDepth 100000 in
set_option maxHeartbeats 4000000 in
theorem rhalves_ok (p k m : Nat) (v : Value) (B : List Int) (w : World) (hc : Cur w p v B k) (hm0 : 0 < m) (hm : m ≤ 1000) (hE : bytesE B k (((m + 1) / 2 : Nat) : Int) = 0) :
    Calls Tryz.prog 55 #[.agg #[.pointer (some ⟨p, 0, none⟩)], .int .i64 (m : Int)] w (HalvEnd w p v B k m) := by
  obtain ⟨i0, hi, hz0, hz1, hz2⟩ := info_parts Tryz.infoInt
  have k0' : Keeps w (w.alloc (.cells #[.pointer (some ⟨p, 0, none⟩)] 73)) [] := (Keeps.refl w []).alloc _
  have H := Lib.hid (rbytes_any p k (((m + 1) / 2 : Nat) : Int) v B _ (hc.keeps k0'))
  have hll := bytesX_len (q := (m + 1) / 2) hc.le hE
  have hxb : ∀ x ∈ bytesX B k (((m + 1) / 2 : Nat) : Int), 0 ≤ x ∧ x ≤ 255 := fun x hx => hc.byte x (bytesX_mem hx)
  obtain ⟨L, hL⟩ : ∃ L, L = bytesX B k (((m + 1) / 2 : Nat) : Int) := ⟨_, rfl⟩
  have hend : Hid (∀ e w', Cur w' p v B (bytesK B k (((m + 1) / 2 : Nat) : Int)) → Keeps w w' [p] → ((((nibX L)[m]?).getD 0 = 0 → ∃ r, e = .returned r ∧ RdI .i64 w' r ((nibX L).take m) ∧ Fresh w.heap.size r) ∧ (((nibX L)[m]?).getD 0 ≠ 0 → e = .panicked [raisedBy 12 false])) → HalvEnd w p v B k m e w') := fun e w' h1 h2 h3 => by
    have hx : halvX B k m = (nibX L).take m := by rw [hL]; rfl
    have he : halvE B k m = if ((nibX L)[m]?).getD 0 = 0 then 0 else 12 := by rw [hL]; unfold halvE; rw [if_neg (by rw [hE]; simp)]
    by_cases hz : ((nibX L)[m]?).getD 0 = 0
    · rw [if_pos hz] at he
      exact ⟨fun _ => by rw [hx]; exact h3.1 hz, (fun h => absurd he h), h1, h2⟩
    · rw [if_neg hz] at he
      exact ⟨(fun h => by rw [he] at h; cases h), (fun _ => by rw [he]; exact h3.2 hz), h1, h2⟩
  rw [hE, ← hL] at H
  rw [← hL] at hll hxb
  have HX := Lib.hid hxb
  have HLL := Lib.hid hll
  generalize bytesK B k (((m + 1) / 2 : Nat) : Int) = K at *
  obtain ⟨q, hq⟩ : ∃ q, q = (m + 1) / 2 := ⟨_, rfl⟩
  have hqi : ((m : Int) + 1) / 2 = (q : Int) := by omega
  rw [← hq] at H HLL
  have HQ := Lib.hid hq
  clear hc hE hL hxb hll hq
  go_enter Tryz.func55, Tryz.ntmps55
  go_wp2_with (go_at_call 75; go_loud (refine H.out.mono ?_; rintro e w1 ⟨he, -, cur1, k1⟩; obtain ⟨r1, rfl, rd1, fr1⟩ := he rfl; obtain ⟨a1, n1, c1, rfl, -, -⟩ := rd1.form))
  have hn1 : n1 = q := by have := rd1.len; have := HLL.out; omega
  subst hn1
  have kk1 := (k0'.mono (S' := [p]) (by simp)).trans k1 (fun j hj _ => hj)
  have hs1 := kk1.size
  have RD := Lib.hid rd1
  have CUR := Lib.hid cur1
  have FR := Lib.hid (fr1.mono (b' := w.heap.size) (by simp))
  clear rd1 cur1 fr1 H
  go_loopw [4, 13] (fun o i wr => ∃ (t : Nat) (a : Option Addr) (c : Nat), t ≤ n1 ∧ i = .int .i64 t ∧ o = .slice a (2 * t) c ∧ wr.ownsRow w1.heap.size 3 1 (.slice a (2 * t) c) (2 * t) ((nibX (L.take t)).map (.int .i64)) ∧ Keeps w1 wr []) (fun _ i _ => n1 - (intOf i).toNat)
  case atStart => exact ⟨0, none, 0, Nat.zero_le _, rfl, rfl, by simpa [nibX] using World.ownsRow_nil _ _ _ _, Keeps.refl _ _⟩
  case round =>
    obtain ⟨t, a, c, ht, rfl, rfl, own, kk⟩ := hrel
    by_cases hlt : t < n1
    · obtain ⟨x, hx⟩ : ∃ x, L[t]? = some x := ⟨_, List.getElem?_eq_getElem (by have := HLL.out; omega)⟩
      obtain ⟨b, o, rfl, hb, hcx⟩ := RD.out.at hx
      have hcx' := (kk.cell (p := ⟨b, o + t, none⟩) hb (by simp)).trans hcx
      have hcap := RD.out.cap
      have hxb := HX.out x (List.mem_of_getElem? hx)
      have htn : (t : Int) < (n1 : Int) := by omega
      have hand := and15 hxb.1 hxb.2
      have hs := kk.size
      have OW := Lib.hid (own_keeps own ((Keeps.refl wr []).alloc (.cells #[.int .i64 (x % 16), .int .i64 (x / 16)] 3)))
      have TW := Lib.hid (two_reads (w := wr) (x := x % 16) (y := x / 16))
      have HN := Lib.hid (nibX_next hx)
      have hge := Lib.hid (fun g (hg : (Value.slice a (2 * t) c).ownBlock = some g) => (own.lt g hg).1)
      clear hx hcx own
      go_wp2_with (at_builtin; go_loud (refine wpList_appendI rfl _ _ 22 rfl w1.heap.size 3 i0 (.int .i64 0) 8 Tryz.underlying22 hi hz0 hz1 hz2 rfl (.slice a (2 * t) c) (2 * t) _ rfl OW.out _ rfl .i64 [x % 16, x / 16] TW.out (by simp; unfold maxLen; omega) (by simp; omega) (by simp; omega) ?_; intro v3 w3 own3 g3 _; obtain ⟨a3, c3, rfl⟩ := own_form own3))
      have HNX := HN.out
      refine ⟨⟨t + 1, a3, c3, by omega, rfl, rfl, ?_, keeps_row kk (((Keeps.refl wr _).alloc _).trans (Keeps.of_grown g3 (fun k hk => by rw [hk]; simp)) (fun j hj _ => hj)) hge.out⟩, by simp [intOf]; omega⟩
      rw [HNX, List.map_append]
      exact own3
    · obtain rfl : t = n1 := by omega
      have htake : L.take t = L := List.take_of_length_le (by have := HLL.out; omega)
      rw [htake] at own
      have hnl : (nibX L).length = 2 * t := by rw [nibX_len, HLL.out]
      have kf := kk1.trans kk (fun j hj _ => by cases hj)
      have CURF := Lib.hid (CUR.out.keeps kk)
      have RDX := Lib.hid (own_reads (l := nibX L) (by rw [hnl]; exact own))
      have htn : decide ((t : Int) < (t : Int)) = false := by simp
      obtain ⟨g, ha, hgb⟩ : ∃ g, a = some ⟨g, 0, none⟩ ∧ w1.heap.size ≤ g := by
        rcases own.2 with ⟨h1, h2⟩ | ⟨g, cp, cur, h1, h2, -⟩
        · have := HQ.out; omega
        · cases h1; exact ⟨g, rfl, h2⟩
      subst ha
      have hcap := RDX.out.cap
      have hcell : ∀ i x, (nibX L)[i]? = some x → wr.cell? ⟨g, i, none⟩ = some (.int .i64 x) := fun i x hx => by
        obtain ⟨b', o', he, -, hc'⟩ := RDX.out.at hx
        cases he
        rw [Nat.zero_add] at hc'
        exact hc'
      have HPC := Lib.hid (fun (hmt : 0 + m ≤ 2 * t) => RDX.out.piece (p := 0) (q := m) hmt m (Nat.le_refl _))
      have HEND := hend.out
      by_cases hev : m = 2 * t
      · have hnone : ((nibX L)[m]?).getD 0 = 0 := by rw [List.getElem?_eq_none (by omega)]; rfl
        have HP := Lib.hid (HPC.out (by omega))
        have HFIN := Lib.hid (fun e w' h1 h2 h3 => HEND e w' h1 h2 ⟨fun _ => h3, fun h => absurd hnone h⟩)
        have hcm : m ≤ c := by omega
        rw [← hev] at hcap ⊢
        clear hend HEND HPC RDX own hcell hnone hnl htake hev HLL HX HQ
        go_wp2_with (go_at_call 54; go_loud (refine (wis_yes (by simp) 12 _).mono ?_; rintro e w9 ⟨rfl, rfl⟩))
        go_ret
        refine HFIN.out _ _ CURF.out kf ⟨_, rfl, ?_, ?_⟩
        · simpa using HP.out
        · intro ad n' c' he
          simp at he
          obtain ⟨he, -, -⟩ := he
          rw [← he]
          dsimp only
          omega
      · have hod : 2 * t = m + 1 := by have := HQ.out; omega
        obtain ⟨y, hy⟩ : ∃ y, (nibX L)[m]? = some y := ⟨_, List.getElem?_eq_getElem (by omega)⟩
        have hcy := hcell m y hy
        have HP := Lib.hid (HPC.out (by omega))
        rw [hod] at hcap ⊢
        have hmm : ((m : Int) + 1 == (m : Int)) = false := by simp; omega
        have hmlt : (m : Int) < (m : Int) + 1 := by omega
        by_cases hy0 : y = 0
        · subst hy0
          have HFIN := Lib.hid (fun e w' h1 h2 h3 => HEND e w' h1 h2 ⟨fun _ => h3, fun h => absurd (by rw [hy]; rfl) h⟩)
          clear hend HEND HPC RDX own hcell hnl htake hod HLL HX HQ hy hev
          go_wp2_with (go_at_call 54; go_loud (refine (wis_yes (by simp) 12 _).mono ?_; rintro e w9 ⟨rfl, rfl⟩))
          go_ret
          refine HFIN.out _ _ CURF.out kf ⟨_, rfl, ?_, ?_⟩
          · simpa using HP.out
          · intro ad n' c' he
            simp at he
            obtain ⟨he, -, -⟩ := he
            rw [← he]
            dsimp only
            omega
        · have hy0' : (y == 0) = false := by simpa using hy0
          have HFIN := Lib.hid (fun e w' h1 h2 h3 => HEND e w' h1 h2 ⟨fun h => absurd h (by rw [hy]; exact hy0), fun _ => h3⟩)
          clear hend HEND HPC RDX own hcell hnl htake hod HLL HX HQ hy hev
          go_wp2_with (go_at_call 54; go_loud (refine (wis_no (by simp [hy0]) 12 _).mono ?_; rintro e w9 ⟨rfl, rfl⟩))
          exact ⟨rfl, HFIN.out _ _ CURF.out kf rfl⟩

theorem rhalves_any (p k m : Nat) (v : Value) (B : List Int) (w : World) (hc : Cur w p v B k) (hm0 : 0 < m) (hm : m ≤ 1000) :
    Calls Tryz.prog 55 #[.agg #[.pointer (some ⟨p, 0, none⟩)], .int .i64 (m : Int)] w (HalvEnd w p v B k m) := by
  by_cases hE : bytesE B k (((m + 1) / 2 : Nat) : Int) = 0
  · exact rhalves_ok p k m v B w hc hm0 hm hE
  · exact rhalves_short p k m v B w hc hm hE
end

section
set_option linter.unusedVariables false
set_option linter.unusedSimpArgs false
set_option linter.unusedSectionVars false
open Go.RowKit

theorem varR_succ (B : List Int) (f i a k : Nat) : varR B (f + 1) i a k = if k < B.length then
      if 128 ≤ byteX B k then varR B f (i + 1) (a + (byteX B k).toNat % 128 * 2 ^ (7 * i)) (k + 1)
      else if byteX B k = 0 ∧ 0 < i then (0, 5, k + 1)
      else if 4611686018427387903 < a + (byteX B k).toNat % 128 * 2 ^ (7 * i) then (0, 18, k + 1)
      else (a + (byteX B k).toNat % 128 * 2 ^ (7 * i), 0, k + 1)
    else (0, 3, k) := rfl
end

section
set_option linter.unusedVariables false
set_option linter.unusedSimpArgs false

theorem byteX_drop {B L : List Int} {k : Nat} {x : Int} (h : B.drop k = x :: L) : k < B.length ∧ byteX B k = x ∧ B.drop (k + 1) = L := by
  have hl : k < B.length := by
    have := congrArg List.length h
    rw [List.length_drop, List.length_cons] at this
    omega
  rw [List.drop_eq_getElem_cons hl] at h
  injection h with h1 h2
  exact ⟨hl, by unfold byteX; rw [List.getElem?_eq_getElem hl, h1]; rfl, h2⟩
theorem varR_varI (B : List Int) : ∀ (f i a k n : Nat) (Z : List Int), n < 128 ^ f → (0 < i → 0 < n) → B.drop k = varI n ++ Z → a + n * 2 ^ (7 * i) ≤ 4611686018427387903 → varR B f i a k = if f = 0 then varR B 0 i a k else (a + n * 2 ^ (7 * i), 0, k + (varI n).length)
  | 0, i, a, k, n, Z, _, _, _, _ => by rw [if_pos rfl]
  | f + 1, i, a, k, n, Z, hn, h0, hd, hm => by
    rw [if_neg (by omega), varR_succ]
    by_cases h128 : n < 128
    · rw [varI_small h128] at hd ⊢
      obtain ⟨h1, h2, h3⟩ := byteX_drop hd
      rw [if_pos h1, h2, if_neg (by omega), if_neg (by rintro ⟨e, hi⟩; have := h0 hi; omega), Int.toNat_natCast, Nat.mod_eq_of_lt h128, if_neg (by omega)]
      rfl
    · have hq : 0 < n / 128 := Nat.div_pos (by omega) (by decide)
      rw [varI_step (by omega)] at hd ⊢
      obtain ⟨h1, h2, h3⟩ := byteX_drop hd
      have hx : (byteX B k).toNat % 128 = n % 128 := by rw [h2]; omega
      rw [if_pos h1, if_pos (by rw [h2]; omega), hx]
      have e : a + n % 128 * 2 ^ (7 * i) + n / 128 * 2 ^ (7 * (i + 1)) = a + n * 2 ^ (7 * i) := by
        have h := Nat.div_add_mod n 128
        rw [show 7 * (i + 1) = 7 + 7 * i by omega, Nat.pow_add, show (2 : Nat) ^ 7 = 128 by decide, ← Nat.mul_assoc, Nat.add_assoc, ← Nat.add_mul]
        congr 2
        omega
      have hlt : n / 128 < 128 ^ f := by
        rw [Nat.pow_succ] at hn
        exact Nat.div_lt_of_lt_mul (by rw [Nat.mul_comm]; exact hn)
      have hf : f ≠ 0 := by
        intro hf
        subst hf
        simp at hlt
        omega
      rw [varR_varI B f (i + 1) (a + n % 128 * 2 ^ (7 * i)) (k + 1) (n / 128) Z hlt (fun _ => hq) h3 (by rw [e]; exact hm), if_neg hf, e, List.length_cons]
      congr 2
      omega
theorem var_read {B Z : List Int} {k n : Nat} (hn : n < 4611686018427387903) (hd : B.drop k = varI n ++ Z) : varX B k = n ∧ varE B k = 0 ∧ varK B k = k + (varI n).length := by
  have h := varR_varI B 9 0 0 k n Z (Nat.lt_of_lt_of_le hn (by decide)) (fun h => by omega) hd (by simp; omega)
  rw [if_neg (by decide)] at h
  have h' : varR B 9 0 0 k = (n, 0, k + (varI n).length) := by simpa using h
  unfold varK varX varE
  rw [h']
  exact ⟨rfl, rfl, rfl⟩
theorem num_read {B Z : List Int} {k n M : Nat} (hn : n < 4611686018427387903) (hM : n ≤ M) (hd : B.drop k = varI n ++ Z) : numX B k M = n ∧ numE B k M = 0 ∧ numK B k M = k + (varI n).length := by
  obtain ⟨h1, h2, h3⟩ := var_read hn hd
  have hE : numE B k M = 0 := by unfold numE; rw [h1, h2, if_neg (by omega)]
  unfold numK numX
  rw [hE, if_pos rfl, if_pos rfl]
  exact ⟨h1, rfl, h3⟩
end

section
/-- The step between visited places. -/
def stepN (s : Nat) : Nat := if s < 16 then 1 else s / 2 + s / 8 + 3
/-- The k-th visited place. -/
def visitN (s k : Nat) : Nat := k * stepN s % s

theorem visit_ok : ∀ g ∈ List.range 10, ((List.range (2 ^ g)).map (visitN (2 ^ g))).Nodup ∧ ∀ p ∈ List.range (2 ^ g), p ∈ (List.range (2 ^ g)).map (visitN (2 ^ g)) := by decide +kernel
theorem visit_nodup {g : Nat} (h : g ≤ 9) : ((List.range (2 ^ g)).map (visitN (2 ^ g))).Nodup := (visit_ok g (List.mem_range.2 (by omega))).1
theorem visit_all {g p : Nat} (h : g ≤ 9) (hp : p < 2 ^ g) : ∃ k, k < 2 ^ g ∧ visitN (2 ^ g) k = p := by
  obtain ⟨k, h1, h2⟩ := List.mem_map.1 ((visit_ok g (List.mem_range.2 (by omega))).2 p (List.mem_range.2 hp))
  exact ⟨k, List.mem_range.1 h1, h2⟩
theorem visit_inj {g i j : Nat} (h : g ≤ 9) (hi : i < 2 ^ g) (hj : j < 2 ^ g) (he : visitN (2 ^ g) i = visitN (2 ^ g) j) : i = j := by
  have hp := List.pairwise_iff_getElem.1 (List.pairwise_map.1 (visit_nodup h))
  rcases Nat.lt_trichotomy i j with h1 | h1 | h1
  · have := hp i j (by simpa using hi) (by simpa using hj) h1
    simp only [List.getElem_range] at this
    exact (this he).elim
  · exact h1
  · have := hp j i (by simpa using hj) (by simpa using hi) h1
    simp only [List.getElem_range] at this
    exact (this he.symm).elim
theorem visit_lt {s k : Nat} (h : 0 < s) : visitN s k < s := Nat.mod_lt _ h
/-- The free places among the first k visits. -/
def freeN (s top k : Nat) : List Nat := ((List.range k).map (visitN s)).filter (fun p => decide (p < top))
theorem free_succ_yes {s top k : Nat} (h : visitN s k < top) : freeN s top (k + 1) = freeN s top k ++ [visitN s k] := by
  simp [freeN, List.range_succ, List.filter_append, h]
theorem free_succ_no {s top k : Nat} (h : ¬ visitN s k < top) : freeN s top (k + 1) = freeN s top k := by
  simp [freeN, List.range_succ, List.filter_append, h]

theorem visit_perm {g : Nat} (h : g ≤ 9) : ((List.range (2 ^ g)).map (visitN (2 ^ g))).Perm (List.range (2 ^ g)) :=
  (List.perm_ext_iff_of_nodup (visit_nodup h) List.nodup_range).2 fun p => by
    constructor
    · intro hp
      obtain ⟨k, -, rfl⟩ := List.mem_map.1 hp
      exact List.mem_range.2 (visit_lt (Nat.two_pow_pos g))
    · intro hp
      exact (visit_ok g (List.mem_range.2 (by omega))).2 p hp
theorem range_filter_lt (n top : Nat) (h : top ≤ n) : ((List.range n).filter (fun p => decide (p < top))).length = top := by
  induction n with
  | zero => simp; omega
  | succ n ih =>
    rw [List.range_succ, List.filter_append, List.length_append]
    by_cases h1 : top ≤ n
    · rw [ih h1]
      simp
      omega
    · have h2 : top = n + 1 := by omega
      subst h2
      rw [List.filter_eq_self.2 (fun a ha => by have := List.mem_range.1 ha; simp; omega)]
      simp
/-- As many places are free as lie below top. -/
theorem free_len {g top : Nat} (h : g ≤ 9) (ht : top ≤ 2 ^ g) : (freeN (2 ^ g) top (2 ^ g)).length = top := by
  unfold freeN
  rw [((visit_perm h).filter _).length_eq]
  exact range_filter_lt _ _ ht

/-- The symbols of norm -1, in order. -/
def lowsL (norm : List Int) : List Nat := (List.range norm.length).filter (fun s => norm.getD s 0 == -1)
/-- The symbols of greater norms, each as often as it has states. -/
def othersL (norm : List Int) : List Nat := (List.range norm.length).flatMap fun s => List.replicate (norm.getD s 0).toNat s
/-- The symbol of place p. -/
def placeN (g : Nat) (norm : List Int) (p : Nat) : Nat :=
  if 2 ^ g - (lowsL norm).length ≤ p then (lowsL norm).getD (2 ^ g - 1 - p) 0
  else (othersL norm).getD ((freeN (2 ^ g) (2 ^ g - (lowsL norm).length) (2 ^ g)).idxOf p) 0
/-- All places' symbols. -/
def placesL (g : Nat) (norm : List Int) : List Nat := (List.range (2 ^ g)).map (placeN g norm)
end

end Go.Proofs.YtophgpnnjphnmaaGreat
