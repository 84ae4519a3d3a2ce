/-
  The cells of a table in plain words. (No walk is done here.)
  Walks over package num: Cursor.Peek. (Printed by mkPk.py.)
  Walks over package desc: Decode. (Printed by mkRv.py.)
-/
import Derived.Test.YtcmagccfagijlaaGreatQ17
import Derived.Test.YtcmagccfagijlaaGreatQ4
import Derived.Test.YtcmagccfagijlaaGreatQ8
import Derived.Test.YtcmagccfagijlaaGreatQ1
import Derived.Test.YtcmagccfagijlaaGreatQ16
namespace Go.Proofs.YtcmagccfagijlaaGreat
section
set_option linter.unusedVariables false
set_option linter.unusedSimpArgs false
set_option linter.unusedSectionVars false
open Go.RowKit

/-- The number that a place's cell is made of. -/
def cellX (g : Nat) (norm : List Int) (p : Nat) : Nat := (stN (norm.getD (placeN g norm p) 0)).toNat + ((placesL g norm).take p).count (placeN g norm p)
/-- The cell of a place: symbol, bits, base. -/
def celP (g : Nat) (norm : List Int) (p : Nat) : Cel := (placeN g norm p, g - (cellX g norm p).log2, cellX g norm p * 2 ^ (g - (cellX g norm p).log2) - 2 ^ g)
def cellsL (g : Nat) (norm : List Int) (k : Nat) : List Cel := (List.range k).map (celP g norm)
theorem cellsL_succ (g : Nat) (norm : List Int) (k : Nat) : cellsL g norm (k + 1) = cellsL g norm k ++ [celP g norm k] := by simp [cellsL, List.range_succ]
theorem cellsL_len (g : Nat) (norm : List Int) (k : Nat) : (cellsL g norm k).length = k := by simp [cellsL]
theorem cellsL_get {g k p : Nat} {norm : List Int} (h : p < k) : (cellsL g norm k)[p]? = some (celP g norm p) := by simp [cellsL, h]

theorem getD_mem {L : List Nat} {j : Nat} (h : j < L.length) : L.getD j 0 ∈ L := by
  rw [List.getD_eq_getElem?_getD, List.getElem?_eq_getElem h]
  exact List.getElem_mem _
/-- A place's symbol has states. -/
theorem placeN_pos {g p : Nat} {norm : List Int} (h : TblOk g norm) (hp : p < 2 ^ g) : 1 ≤ stN (norm.getD (placeN g norm p) 0) := by
  have hl := h.lens
  unfold placeN
  split
  · have hm := getD_mem (L := lowsL norm) (j := 2 ^ g - 1 - p) (by omega)
    generalize (lowsL norm).getD (2 ^ g - 1 - p) 0 = s at *
    have h1 := (List.mem_filter.1 hm).2
    have h2 : norm.getD s 0 = -1 := by simpa using h1
    rw [h2]
    decide
  · have hfl := free_len (g := g) (top := 2 ^ g - (lowsL norm).length) h.g9 (by omega)
    have hmem : p ∈ freeN (2 ^ g) (2 ^ g - (lowsL norm).length) (2 ^ g) := free_all h.g9 (by omega) (by omega)
    have hidx : (freeN (2 ^ g) (2 ^ g - (lowsL norm).length) (2 ^ g)).idxOf p < (othersL norm).length := by
      have := List.idxOf_lt_length_of_mem hmem
      omega
    have hm := getD_mem hidx
    generalize (othersL norm).getD ((freeN (2 ^ g) (2 ^ g - (lowsL norm).length) (2 ^ g)).idxOf p) 0 = s at *
    obtain ⟨i, hi, hs⟩ := List.mem_flatMap.1 hm
    obtain ⟨h1, rfl⟩ := List.mem_replicate.1 hs
    unfold stN
    split <;> omega
theorem placeN_norm {g p : Nat} {norm : List Int} (h : TblOk g norm) : ∃ x, norm[placeN g norm p]? = some x ∧ norm.getD (placeN g norm p) 0 = x := by
  have h1 := placeN_lt (p := p) h.g9 h.pos
  exact ⟨_, List.getElem?_eq_getElem h1, by rw [List.getD_eq_getElem?_getD, List.getElem?_eq_getElem h1]; rfl⟩
theorem stN_top {g s : Nat} {x : Int} {norm : List Int} (h : TblOk g norm) (hx : norm[s]? = some x) : stN x ≤ ((2 ^ g : Nat) : Int) := by
  have h1 := h.low
  have h2 := sumN_prefix (k := s + 1) h1
  rw [sumN_take hx, h.sum] at h2
  have h3 := sumN_nonneg (l := norm.take s) (fun n hn => h1 n (List.mem_of_mem_take hn))
  omega
theorem cellX_pos {g p : Nat} {norm : List Int} (h : TblOk g norm) (hp : p < 2 ^ g) : 1 ≤ cellX g norm p ∧ cellX g norm p < 2 * 2 ^ g := by
  obtain ⟨x, hx, hg⟩ := placeN_norm (p := p) h
  have h1 := placeN_pos h hp
  have h2 := stN_top h hx
  have h3 : ((placesL g norm).take p).count (placeN g norm p) ≤ p := Nat.le_trans List.count_le_length (List.length_take_le _ _)
  unfold cellX
  rw [hg] at h1 ⊢
  omega
/-- A state stays inside the table. -/
theorem celP_in {g p v : Nat} {norm : List Int} (h : TblOk g norm) (hp : p < 2 ^ g) (hv : v < 2 ^ (celP g norm p).2.1) : (celP g norm p).2.2 + v < 2 ^ g ∧ (celP g norm p).2.1 ≤ g := by
  obtain ⟨h1, h2⟩ := cellX_pos h hp
  obtain ⟨h3, h4, h5⟩ := cell_in h1 h2
  unfold celP at hv ⊢
  simp only at hv ⊢
  rw [Nat.add_mul, Nat.one_mul] at h5
  omega

/-- How often each number stands in a list. -/
def hadF (l : List Nat) : Int → Option Int := fun q => if 0 ≤ q ∧ q.toNat ∈ l then some ((l.count q.toNat : Nat) : Int) else none
theorem hadF_nil : hadF [] = fun _ => none := by
  funext q
  simp [hadF]
theorem hadF_get (l : List Nat) (s : Nat) : (hadF l (s : Int)).getD 0 = ((l.count s : Nat) : Int) := by
  unfold hadF
  by_cases h : s ∈ l
  · rw [if_pos ⟨by omega, by simpa using h⟩]; simp
  · rw [if_neg (by rintro ⟨-, h2⟩; exact h (by simpa using h2)), List.count_eq_zero.2 h]; rfl
theorem hadF_snoc (l : List Nat) (s : Nat) : updI (hadF l) (s : Int) (((l.count s : Nat) : Int) + 1) = hadF (l ++ [s]) := by
  funext q
  unfold updI hadF
  by_cases h : q = (s : Int)
  · subst h
    rw [if_pos rfl, if_pos ⟨by omega, by simp⟩]
    simp [List.count_append]
  · rw [if_neg h]
    by_cases h0 : 0 ≤ q
    · have hne : q.toNat ≠ s := by omega
      by_cases h1 : q.toNat ∈ l
      · rw [if_pos ⟨h0, h1⟩, if_pos ⟨h0, List.mem_append.2 (.inl h1)⟩, List.count_append, List.count_eq_zero.2 (show q.toNat ∉ [s] by simpa using hne)]
        simp
      · rw [if_neg (fun h2 => h1 h2.2), if_neg]
        rintro ⟨-, h2⟩
        rcases List.mem_append.1 h2 with h3 | h3
        · exact h1 h3
        · exact hne (List.mem_singleton.1 h3)
    · rw [if_neg (fun h2 => h0 h2.1), if_neg (fun h2 => h0 h2.1)]

/-- A cell in memory. -/
def rowC (c : Cel) : List Value := [.int .i64 (c.1 : Int), .int .i64 (c.2.1 : Int), .int .i64 (c.2.2 : Int)]
theorem rowC_len (c : Cel) : (rowC c).length = 3 := rfl
theorem rowC_one (c : Cel) : ∀ u ∈ rowC c, u.oneCell' = true := by
  intro u hu
  simp [rowC] at hu
  rcases hu with rfl | rfl | rfl <;> rfl
end

section
set_option linter.unusedVariables false
set_option linter.unusedSimpArgs false
set_option linter.unusedSectionVars false
open Go.RowKit

set_option maxRecDepth 100000 in
set_option maxHeartbeats 4000000 in
theorem peek_any (p k : Nat) (v : Value) (B : List Int) (w : World) (hc : Cur w p v B k) :
    Calls Tryz.prog 117 #[.pointer (some ⟨p, 0, none⟩), .int .i64 1024] w fun e w' => ∃ v', e = .returned v' ∧ OwnB w' w.heap.size v' ((B.drop k).take 1024) ∧ Keeps w w' [] := by
  have HL := Lib.hid (left_any p k v B w hc)
  have hlen := hc.len
  have hle := hc.le
  obtain ⟨c0, c1, -⟩ := hc.cells
  obtain ⟨D, hD⟩ : ∃ D : Int, (B.length : Int) - (k : Int) = D := ⟨_, rfl⟩
  rw [hD] at HL
  obtain ⟨M, hM⟩ : ∃ M : Int, min (max 1024 0) D = M := ⟨_, rfl⟩
  obtain ⟨m, hm⟩ : ∃ m : Nat, M = (m : Int) := ⟨M.toNat, by omega⟩
  have hml : k + m ≤ B.length := by omega
  have ht : (B.drop k).take 1024 = (B.drop k).take m := by
    by_cases h : 1024 ≤ B.length - k
    · rw [show m = 1024 by omega]
    · rw [List.take_of_length_le (by rw [List.length_drop]; omega), List.take_of_length_le (by rw [List.length_drop]; omega)]
  rw [ht]
  obtain ⟨r, hr0, rr, -⟩ := slice_part hc.rd (i := k) (j := k + m) (by omega) hml
  rw [Nat.add_sub_cancel_left] at rr
  obtain ⟨T, hT⟩ : ∃ T : Int, (k : Int) + M = T := ⟨_, rfl⟩
  have hr : ∀ w, (Instr.slice 22 v (some (.int .i64 (k : Int))) (some (.int .i64 T)) none).run Tryz.prog w = .ok r w := fun w => by
    have := hr0 w
    rw [show T = ((k + m : Nat) : Int) by omega]
    exact this
  have mT : IntKind.i64.wrap T = T := by simp [IntKind.wrap, IntKind.signed, IntKind.bits]; omega
  have hll : ((B.drop k).take m).length ≤ 1000000 := by rw [List.length_take, List.length_drop]; omega
  generalize (B.drop k).take m = L at *
  have HCL := Lib.hid (fun W' (k' : Keeps w W' []) => cloneb_any r _ W' (rr.keeps k') hll)
  have HC := Lib.hid hc
  obtain ⟨ad, n, c, rfl, -, -⟩ := hc.rd.form
  clear hc rr hr0 hll ht hD hm hml hlen hle
  go_enter Tryz.func117, Tryz.ntmps117
  go_wp2_with fail
  refine HL.out.mono ?_
  rintro e w1 ⟨rfl, q, rfl⟩
  have k1 := (Keeps.refl w []).drewN q
  go_wp2_with fail
  clear c0 c1
  refine wp_region_held_drew (S := (fun w' => w'.cell? ⟨p, 0, none⟩ = some (.slice ad n c) ∧ w'.cell? ⟨p, 1, none⟩ = some (.int .i64 (k : Int)) ∧ Keeps w w' [])) (by kernel_rfl) ⟨(HC.out.keeps k1.drew).cells.1, (HC.out.keeps k1.drew).cells.2.1, k1.drew⟩ (fun hHeld => ?_)
  refine takeL (i := 0) (v := ?_) rfl (by kernel_rfl) (by kernel_rfl) (by kernel_rfl) (fun _ _ _ h => h) (by rfl) ?_ (by assumption) ?_
  rotate_left
  · (intro w9 hSw; obtain ⟨q0, q1, -⟩ := hSw; go_simp; (try with_reducible rfl))
  try simp only [Act.put, List.setIfInBounds_toArray, List.set_cons_zero, List.set_cons_succ]
  refine takeL (i := 1) (v := ?_) rfl (by kernel_rfl) (by kernel_rfl) (by kernel_rfl) (fun _ _ _ h => h) (by rfl) ?_ (by assumption) ?_
  rotate_left
  · (intro w9 hSw; obtain ⟨q0, q1, -⟩ := hSw; go_simp; (try with_reducible rfl))
  try simp only [Act.put, List.setIfInBounds_toArray, List.set_cons_zero, List.set_cons_succ]
  refine takeL (i := 2) (v := ?_) rfl (by kernel_rfl) (by kernel_rfl) (by kernel_rfl) (fun _ _ _ h => h) (by rfl) ?_ (by assumption) ?_
  rotate_left
  · (intro w9 hSw; obtain ⟨q0, q1, -⟩ := hSw; go_simp; (try with_reducible rfl))
  try simp only [Act.put, List.setIfInBounds_toArray, List.set_cons_zero, List.set_cons_succ]
  refine takeL (i := 3) (v := ?_) rfl (by kernel_rfl) (by kernel_rfl) (by kernel_rfl) (fun _ _ _ h => h) (by rfl) ?_ (by assumption) ?_
  rotate_left
  · (intro w9 hSw; obtain ⟨q0, q1, -⟩ := hSw; go_simp; (try with_reducible rfl))
  try simp only [Act.put, List.setIfInBounds_toArray, List.set_cons_zero, List.set_cons_succ]
  refine takeL (i := 4) (v := ?_) rfl (by kernel_rfl) (by kernel_rfl) (by kernel_rfl) (fun _ _ _ h => h) (by rfl) ?_ (by assumption) ?_
  rotate_left
  · (intro w9 hSw; obtain ⟨q0, q1, -⟩ := hSw; go_simp; (try with_reducible rfl))
  try simp only [Act.put, List.setIfInBounds_toArray, List.set_cons_zero, List.set_cons_succ]
  refine takeL (i := 5) (v := ?_) rfl (by kernel_rfl) (by kernel_rfl) (by kernel_rfl) (fun _ _ _ h => h) (by rfl) ?_ (by assumption) ?_
  rotate_left
  · (intro w9 hSw; obtain ⟨q0, q1, -⟩ := hSw; go_simp; (try with_reducible rfl))
  try simp only [Act.put, List.setIfInBounds_toArray, List.set_cons_zero, List.set_cons_succ]
  refine takeL (i := 6) (v := ?_) rfl (by kernel_rfl) (by kernel_rfl) (by kernel_rfl) (fun _ _ _ h => h) (by rfl) ?_ (by assumption) ?_
  rotate_left
  · (intro w9 hSw; obtain ⟨q0, q1, -⟩ := hSw; go_simp; (try with_reducible rfl))
  try simp only [Act.put, List.setIfInBounds_toArray, List.set_cons_zero, List.set_cons_succ]
  refine takeL (i := 7) (v := ?_) rfl (by kernel_rfl) (by kernel_rfl) (by kernel_rfl) (fun _ _ _ h => h) (by rfl) ?_ (by assumption) ?_
  rotate_left
  · (intro w9 hSw; obtain ⟨q0, q1, -⟩ := hSw; go_simp; (try with_reducible rfl))
  try simp only [Act.put, List.setIfInBounds_toArray, List.set_cons_zero, List.set_cons_succ]
  refine takeL (i := 8) (v := ?_) rfl (by kernel_rfl) (by kernel_rfl) (by kernel_rfl) (fun _ _ _ h => h) (by rfl) ?_ (by assumption) ?_
  rotate_left
  · (intro w9 hSw; obtain ⟨q0, q1, -⟩ := hSw; go_simp; (try with_reducible rfl))
  try simp only [Act.put, List.setIfInBounds_toArray, List.set_cons_zero, List.set_cons_succ]
  refine takeL (i := 9) (v := ?_) rfl (by kernel_rfl) (by kernel_rfl) (by kernel_rfl) (fun _ _ _ h => h) (by rfl) ?_ (by assumption) ?_
  rotate_left
  · (intro w9 hSw; obtain ⟨q0, q1, -⟩ := hSw; go_simp; (try with_reducible rfl))
  try simp only [Act.put, List.setIfInBounds_toArray, List.set_cons_zero, List.set_cons_succ]
  refine takeL (i := 10) (v := ?_) rfl (by kernel_rfl) (by kernel_rfl) (by kernel_rfl) (fun _ _ _ h => h) (by rfl) ?_ (by assumption) ?_
  rotate_left
  · (intro w9 hSw; obtain ⟨q0, q1, -⟩ := hSw; go_simp; (try with_reducible rfl))
  try simp only [Act.put, List.setIfInBounds_toArray, List.set_cons_zero, List.set_cons_succ]
  refine takeL (i := 11) (v := ?_) rfl (by kernel_rfl) (by kernel_rfl) (by kernel_rfl) (fun _ _ _ h => h) (by rfl) ?_ (by assumption) ?_
  rotate_left
  · (intro w9 hSw; obtain ⟨q0, q1, -⟩ := hSw; go_simp; (try with_reducible rfl))
  try simp only [Act.put, List.setIfInBounds_toArray, List.set_cons_zero, List.set_cons_succ]
  refine takeL (i := 12) (v := ?_) rfl (by kernel_rfl) (by kernel_rfl) (by kernel_rfl) (fun _ _ _ h => h) (by rfl) ?_ (by assumption) ?_
  rotate_left
  · (intro w9 hSw; obtain ⟨q0, q1, -⟩ := hSw; go_simp; (try with_reducible rfl))
  try simp only [Act.put, List.setIfInBounds_toArray, List.set_cons_zero, List.set_cons_succ]
  refine takeL (i := 13) (v := ?_) rfl (by kernel_rfl) (by kernel_rfl) (by kernel_rfl) (fun _ _ _ h => h) (by rfl) ?_ (by assumption) ?_
  rotate_left
  · (intro w9 hSw; obtain ⟨q0, q1, -⟩ := hSw; go_simp; (try with_reducible rfl))
  try simp only [Act.put, List.setIfInBounds_toArray, List.set_cons_zero, List.set_cons_succ]
  refine takeL (i := 14) (v := ?_) rfl (by kernel_rfl) (by kernel_rfl) (by kernel_rfl) (fun _ _ _ h => h) (by rfl) ?_ (by assumption) ?_
  rotate_left
  · (intro w9 hSw; obtain ⟨q0, q1, -⟩ := hSw; go_simp; (try with_reducible rfl))
  try simp only [Act.put, List.setIfInBounds_toArray, List.set_cons_zero, List.set_cons_succ]
  refine callL (i := 15) rfl (by kernel_rfl) (fun Kont hK => ?_)
  go_simp
  have KB := hHeld.2.2; refine (HCL.out _ hHeld.2.2).mono ?_; rintro e w3 ⟨v3, rfl, own3, k3⟩; obtain ⟨a3, c3, rfl⟩ := own_form own3
  go_wp2_with fail
  refine hK.out _ _ ?_ (fun hHeld => ?_)
  · (exact ⟨((HC.out.keeps (hHeld.2.2.then k3)).cells).1, ((HC.out.keeps (hHeld.2.2.then k3)).cells).2.1, hHeld.2.2.then k3⟩)
  clear hK Kont
  refine takeL (i := 16) (v := ?_) rfl (by kernel_rfl) (by kernel_rfl) (by kernel_rfl) (fun _ _ _ h => h) (by rfl) ?_ (by assumption) ?_
  rotate_left
  · (intro w9 hSw; clear hSw; go_simp; (try with_reducible rfl))
  try simp only [Act.put, List.setIfInBounds_toArray, List.set_cons_zero, List.set_cons_succ]
  refine wpAnyH_done (by kernel_rfl) ?_ _
  go_wp2_with fail
  go_ret
  exact ⟨_, rfl, own_base own3 (by have := k3.size; have := KB.size; omega), hHeld.2.2⟩
end

section
set_option linter.unusedVariables false
set_option linter.unusedSimpArgs false
set_option linter.unusedSectionVars false
open Go.RowKit

/-- A whole struct is stored into a block, as a step of a drawn region. -/
theorem step_storeB {P : Program} {ops : Array Oper} {o : Oper} {a : Act} {w : World} {K : Act → World → Prop} {Q : Exit → Act → World → Prop} {E : Prop} (hgd : o.guard = none) (ty : TypeId) (x y : Operand) (ho : o.op = .store ty x y)
    (g : Nat) (cells : Array Value) (hx : a.eval x = .pointer (some ⟨g, 0, none⟩)) (hy : a.eval y = .agg cells) (t : TypeId) (old : Array Value) (hb : Blk w g old t) (hi : (P.info? ty).map (·.size) = some cells.size)
    (hold : old.size = cells.size) (h1 : cells.all (·.oneCell') = true) (h : ∀ W, Blk W g cells t → Keeps w W [g] → K (a.put o.dst undef) W) :
    if Region.wanted o (yielded ops a.tmps) = true then Oper.wp P o a w K Q else E := by
  have hw : Region.wanted o (yielded ops a.tmps) = true := by simp [Region.wanted, hgd]
  rw [if_pos hw]
  exact wp_store_row ty x y ho g cells hx hy t old hb hi hold h1 (h _ (setRow_heap w g old cells t (0, 0) hb) keeps_setRow)

/-- The table that the bits say, and how many bytes its description has. -/
def descP (D : List Int) (symbols : Nat) (log : Int) : Except Int (Nat × List Int × Nat) :=
  match tabP D symbols log with
  | .error e => .error e
  | .ok (n, l, L2) => if valL (L2.take (L2.length % 8)) = 0 then .ok (n, l, D.length - L2.length / 8) else .error 14

/-- How Decode ends. -/
def DescEnd (w : World) (p : Nat) (v : Value) (B : List Int) (k : Nat) (Z : Except Int (Nat × List Int × Nat)) (e : Ending) (w' : World) : Prop :=
  Keeps w w' [p] ∧ match Z with
    | .ok (G, l, m) => ∃ a c, e = .returned (.tuple #[.agg #[.int .i64 (G : Int), .slice a l.length c], .int .i64 0]) ∧ w'.ownsRow w.heap.size 3 1 (.slice a l.length c) l.length (l.map (.int .i64)) ∧ l.length ≤ 1300 ∧ Cur w' p v B (k + m)
    | .error n => n ≠ 0 ∧ e = .returned (.tuple #[.agg #[.int .i64 0, .slice none 0 0], .int .i64 n]) ∧ Cur w' p v B k

theorem bytes_peek {B : List Int} {k m : Nat} (hk : k ≤ B.length) (h : m ≤ ((B.drop k).take 1024).length) : bytesE B k (m : Int) = 0 ∧ bytesK B k (m : Int) = k + m := by
  rw [List.length_take, List.length_drop] at h
  have e : bytesE B k (m : Int) = 0 := by
    unfold bytesE
    rw [if_neg (by omega)]
    by_cases h0 : (B.length : Int) - (k : Int) < (m : Int)
    · omega
    · rw [if_neg h0]
  exact ⟨e, by rw [bytesK, if_pos e, Int.toNat_natCast]⟩

set_option maxRecDepth 100000 in
set_option maxHeartbeats 2000000 in
theorem ddecode_any (p k symbols : Nat) (log : Int) (v : Value) (B : List Int) (w : World) (hc : Cur w p v B k) (hs : symbols ≤ 256) :
    Calls Tryz.prog 81 #[.pointer (some ⟨p, 0, none⟩), .int .i64 symbols, .int .i64 log] w (DescEnd w p v B k (descP ((B.drop k).take 1024) symbols log)) := by
  obtain ⟨D, hD⟩ : ∃ D, (B.drop k).take 1024 = D := ⟨_, rfl⟩
  have HBP := Lib.hid (fun m => bytes_peek (B := B) (k := k) (m := m) hc.le)
  rw [hD] at HBP ⊢
  have hDl : D.length ≤ 1000000 := by rw [← hD, List.length_take]; omega
  have hDb : ∀ x ∈ D, 0 ≤ x ∧ x ≤ 255 := fun x hx => hc.byte x (List.mem_of_mem_drop (List.mem_of_mem_take (hD ▸ hx)))
  obtain ⟨Z, hZ⟩ : ∃ Z, descP D symbols log = Z := ⟨_, rfl⟩
  rw [hZ]
  unfold descP at hZ
  have HZ := Lib.hid hZ
  clear hZ
  have hlp := hc.old.1
  have HOLD := Lib.hid hc.old.2
  have k0 := (Keeps.refl w []).alloc (.cells #[.int .i64 0, .slice none 0 0] 27)
  have b0 := Blk.new w #[.int .i64 0, .slice none 0 0] 27
  have HP := Lib.hid (peek_any p k v B _ (hc.keeps k0))
  rw [hD] at HP
  have HC := Lib.hid hc
  have HDB := Lib.hid hDb
  have hmin : min (symbols : Int) 256 = (symbols : Int) := by omega
  clear hc hD hDb
  go_enter Tryz.func81, Tryz.ntmps81
  go_wp2_with fail
  refine HP.out.mono ?_
  rintro e w1 ⟨v1, rfl, own1, k1⟩
  have HF := Lib.hid (newFwd_any v1 D w1 (own_reads own1) hDl HDB.out)
  have b1 := b0.keeps k1 (by simp)
  have kk1 := k0.then k1
  obtain ⟨a1, c1, rfl⟩ := own_form own1
  clear own1 k1 k0 b0
  go_wp2_with fail
  refine HF.out.mono ?_
  rintro e w2 ⟨R, g, rfl, br, hR, hg, k2⟩
  have kb := (Keeps.refl w2 []).alloc (.cells #[.pointer (some ⟨R, 0, none⟩), .int .i64 0] 156)
  have lR := br.lt
  have dr : DR (w2.alloc (.cells #[.pointer (some ⟨R, 0, none⟩), .int .i64 0] 156)) w2.heap.size R g D 0 0 :=
    ⟨Blk.new w2 _ _, br.keep kb, by omega, fun h0 => by have := lR.2 h0; omega⟩
  have HT := Lib.hid (table_any w2.heap.size R g symbols log D _ dr hs)
  have b2 := b1.keeps (k2.then kb) (by simp)
  have kk2 := (kk1.then k2).then kb
  have hs1 := kk1.size
  have hs2 := k2.size
  have hb1 := b1.lt
  have hRw : w.heap.size < R := Nat.lt_of_lt_of_le hb1 hR
  have hQw : w.heap.size < w2.heap.size := Nat.lt_of_lt_of_le hb1 hs2
  obtain ⟨Q, hQ⟩ : ∃ Q, w2.heap.size = Q := ⟨_, rfl⟩
  rw [hQ] at hQw
  rw [hQ] at HT hs2
  have hR3 : R < (w2.alloc (.cells #[.pointer (some ⟨R, 0, none⟩), .int .i64 0] 156)).heap.size := dr.rd.lt.1
  have hw3 : w.heap.size < (w2.alloc (.cells #[.pointer (some ⟨R, 0, none⟩), .int .i64 0] 156)).heap.size := b2.lt
  clear dr br kb k2 lR b1 kk1
  go_wp2_with fail
  have HQ := Lib.hid hQ
  generalize (w2.alloc (.cells #[.pointer (some ⟨R, 0, none⟩), .int .i64 0] 156)) = w3 at *
  have hs3 := kk2.size
  clear hQ
  refine HT.out.mono ?_
  rintro e w4 ⟨G, l, a, c, rfl, own4, hl, hdone, k4⟩
  have b4 := b2.keeps k4 (by simp; omega)
  have kk4 : Keeps w w4 [] := kk2.trans k4 (fun j hj hl => by simp at hj; omega)
  have O4 := Lib.hid own4
  have hs4 := k4.size
  clear own4 k4 b2 HT HP HF
  cases hz : tabP D symbols log with
  | error er =>
    rw [hz] at hdone
    have hzz := HZ.out
    rw [hz] at hzz
    obtain ⟨her, p', d4⟩ := hdone
    have c0 := d4.blk.cell 0
    have c1 := d4.blk.cell 1
    simp at c0 c1
    have hne : (er != 0) = true := by simpa using her
    have hQ4 := d4.blk.lt
    have hT4 := b4.lt
    go_wp2_with fail
    have ka := (Keeps.refl w4 []).alloc (.cells #[.int .i64 (G : Int), .slice a l.length c] 27)
    have d5 := d4.keep ka
    have b5 := b4.keeps ka (by simp)
    have kk5 := kk4.then ka
    clear c0 c1 d4 b4 ka
    generalize (w4.alloc (.cells #[.int .i64 (G : Int), .slice a l.length c] 27)) = w5 at *
    refine wp_region_held_drew (S := (fun w' => Blk w' Q #[.pointer (some ⟨R, 0, none⟩), .int .i64 er] 156)) (by kernel_rfl) d5.blk.drew (fun hHeld => ?_)
    refine takeL (i := 0) (v := ?_) rfl (by kernel_rfl) (by kernel_rfl) (by kernel_rfl) (fun _ _ _ h => h) (by rfl) ?_ (by assumption) ?_
    rotate_left
    · (intro w9 hSw; have q0 := hSw.cell 0; have q1 := hSw.cell 1; simp at q0 q1; clear hSw; go_simp; (try with_reducible rfl))
    try simp only [Act.put, List.setIfInBounds_toArray, List.set_cons_zero, List.set_cons_succ]
    refine takeL (i := 1) (v := ?_) rfl (by kernel_rfl) (by kernel_rfl) (by kernel_rfl) (fun _ _ _ h => h) (by rfl) ?_ (by assumption) ?_
    rotate_left
    · (intro w9 hSw; have q0 := hSw.cell 0; have q1 := hSw.cell 1; simp at q0 q1; clear hSw; go_simp; (try with_reducible rfl))
    try simp only [Act.put, List.setIfInBounds_toArray, List.set_cons_zero, List.set_cons_succ]
    refine takeL (i := 2) (v := ?_) rfl (by kernel_rfl) (by kernel_rfl) (by kernel_rfl) (fun _ _ _ h => h) (by rfl) ?_ (by assumption) ?_
    rotate_left
    · (intro w9 hSw; have q0 := hSw.cell 0; have q1 := hSw.cell 1; simp at q0 q1; clear hSw; go_simp; (try with_reducible rfl))
    try simp only [Act.put, List.setIfInBounds_toArray, List.set_cons_zero, List.set_cons_succ]
    refine takeL (i := 3) (v := ?_) rfl (by kernel_rfl) (by kernel_rfl) (by kernel_rfl) (fun _ _ _ h => h) (by rfl) ?_ (by assumption) ?_
    rotate_left
    · (intro w9 hSw; have q0 := hSw.cell 0; have q1 := hSw.cell 1; simp at q0 q1; clear hSw; go_simp; (try with_reducible rfl))
    try simp only [Act.put, List.setIfInBounds_toArray, List.set_cons_zero, List.set_cons_succ]
    refine takeL (i := 4) (v := ?_) rfl (by kernel_rfl) (by kernel_rfl) (by kernel_rfl) (fun _ _ _ h => h) (by rfl) ?_ (by assumption) ?_
    rotate_left
    · (intro w9 hSw; have q0 := hSw.cell 0; have q1 := hSw.cell 1; simp at q0 q1; clear hSw; go_simp; (try with_reducible rfl))
    try simp only [Act.put, List.setIfInBounds_toArray, List.set_cons_zero, List.set_cons_succ]
    refine callL (i := 5) rfl (by kernel_rfl) (fun Kont hK => ?_)
    refine step_storeB rfl 27 _ _ rfl w.heap.size #[.int .i64 0, .slice none 0 0] rfl rfl _ _ b5.drew tblr_size rfl (by simp [Value.oneCell']) ?_
    intro W9 b9 k9
    refine hK.out _ _ ?_ (fun hHeld => ?_)
    · exact hHeld.keeps k9 (by simp; omega)
    clear hK Kont
    refine takeL (i := 6) (v := ?_) rfl (by kernel_rfl) (by kernel_rfl) (by kernel_rfl) (fun _ _ _ h => h) (by rfl) ?_ (by assumption) ?_
    rotate_left
    · (intro w9 hSw; clear hSw; go_simp; (try with_reducible rfl))
    try simp only [Act.put, List.setIfInBounds_toArray, List.set_cons_zero, List.set_cons_succ]
    refine wpAnyH_done (by kernel_rfl) ?_ _
    go_wp2_with fail
    have e9 := kk5.drew.trans k9 (S' := [w.heap.size]) (fun j hj hl => by have := List.mem_singleton.1 hj; omega)
    refine bodyPost_ret (v := .tuple #[.agg #[.int .i64 0, .slice none 0 0], .int .i64 er]) (res_cell_tmp rfl rfl rfl (loadr_tbl b9)) rfl ⟨e9.mono (by simp), ?_⟩
    rw [← hzz]
    exact ⟨her, rfl, HC.out.keeps e9⟩
  | ok z =>
    obtain ⟨n, l', L2⟩ := z
    rw [hz] at hdone
    have hzz := HZ.out
    rw [hz] at hzz
    obtain ⟨rfl, rfl, p', rfl, hp', d4⟩ := hdone
    have c0 := d4.blk.cell 0
    have c1 := d4.blk.cell 1
    simp at c0 c1
    have hQ4 := d4.blk.lt
    have hT4 := b4.lt
    have hlen : ((rowBits D).drop p').length = 8 * D.length - p' := by rw [List.length_drop, rowBits_len]
    obtain ⟨m, hm⟩ : ∃ m, (8 - p' % 8) % 8 = m := ⟨_, rfl⟩
    have hmod : (8 * D.length - p') % 8 = m := by omega
    have hval : valL (((rowBits D).drop p').take m) = bitsAt D p' m := rfl
    obtain ⟨nb, hnb⟩ : ∃ nb, (p' + m) / 8 = nb := ⟨_, rfl⟩
    have hnb2 : D.length - (8 * D.length - p') / 8 = nb := by omega
    have hnbl : nb ≤ D.length := by omega
    simp only at hzz
    rw [hlen, hmod, hval, hnb2] at hzz
    have HZZ := Lib.hid hzz
    have HA := Lib.hid (fun W (d : DR W Q R g D p' 0) => fwdAlign_any R g D p' W d.rd)
    rw [hm, hnb] at HA
    obtain ⟨hbe, hbk⟩ := HBP.out nb hnbl
    have HB := Lib.hid (fun W (cu : Cur W p v B k) => bytes_any p k (nb : Int) v B W cu)
    rw [hbe, hbk] at HB
    clear hlen hmod hval hnb2 hzz hz hbe hbk hm hnb
    go_wp2_with fail
    have ka := (Keeps.refl w4 []).alloc (.cells #[.int .i64 (n : Int), .slice a l'.length c] 27)
    have d5 := d4.keep ka
    have b5 := b4.keeps ka (by simp)
    have t5 := Blk.new w4 #[.int .i64 (n : Int), .slice a l'.length c] 27
    have O5 := Lib.hid (own_keeps O4.out ka)
    have kk5 := kk4.then ka
    have hs5 := ka.size
    have hRl := d4.rd.lt.1
    clear c0 c1 d4 b4 ka
    generalize (w4.alloc (.cells #[.int .i64 (n : Int), .slice a l'.length c] 27)) = w5 at *
    have HA5 := HA.out _ d5
    by_cases hV : bitsAt D p' m = 0
    · simp only [hV, if_true] at HZZ HA5
      refine HA5.mono ?_
      rintro e w6 ⟨rfl, br6, k6⟩
      have b6 := b5.keeps k6 (by simp; omega)
      have t6 := t5.keeps k6 (by simp; omega)
      have O6 := Lib.hid (own_old O5.out k6 (fun x hx hm => by have := List.mem_singleton.1 hm; have := (O4.out.lt x hx).1; omega))
      have kk6 : Keeps w w6 [] := kk5.trans k6 (fun j hj hl => by have := List.mem_singleton.1 hj; omega)
      have HC6 := Lib.hid (HC.out.keeps kk6)
      have hs6 := k6.size
      clear t5 b5 kk5 HA5 k6 br6
      go_wp2_with fail
      refine (HB.out _ HC6.out).mono ?_
      rintro e w7 ⟨r7, rfl, -, -, cur7, k7⟩
      have b7 := b6.keeps k7 (by simp; omega)
      have t7 := t6.keeps k7 (by simp; omega)
      have O7 := Lib.hid (own_old O6.out k7 (fun x hx hm => by have := List.mem_singleton.1 hm; have := (O4.out.lt x hx).1; omega))
      have kk7 : Keeps w w7 [p] := (kk6.mono (S' := [p]) (fun _ h => by cases h)).trans k7 (fun j hj hl => hj)
      have c0 := t7.cell 0
      have c1 := t7.cell 1
      simp at c0 c1
      clear t6 b6 kk6 k7
      go_wp2_with (refine wpList_store_blk rfl 27 _ _ rfl w.heap.size #[.int .i64 (n : Int), .slice a l'.length c] rfl rfl _ _ b7 tblr_size rfl (by simp [Value.oneCell']) ?_; intro W9 b9 k9)
      have e9 := kk7.trans k9 (S' := [w.heap.size]) (fun j hj hl => by have := List.mem_singleton.1 hj; omega)
      refine bodyPost_ret (v := .tuple #[.agg #[.int .i64 (n : Int), .slice a l'.length c], .int .i64 0]) (res_cell_tmp rfl rfl rfl (loadr_tbl b9)) rfl ⟨e9, ?_⟩
      rw [← HZZ.out]
      refine ⟨a, c, rfl, own_base (own_old O7.out k9 (fun x hx hm => by have := List.mem_singleton.1 hm; have := (O4.out.lt x hx).1; omega)) (by omega), hl, ?_⟩
      exact cur7.keepsS k9 (by simp; omega) (fun ad n0 c0 he h0 hm => by have := HOLD.out ad n0 c0 he h0; simp at hm; omega)
    · simp only [hV, if_false] at HZZ HA5
      refine HA5.mono ?_
      rintro e w6 ⟨rfl, k6⟩
      have b6 := b5.keeps k6 (by simp)
      have kk6 := kk5.then k6
      clear t5 b5 kk5 HA5
      go_wp2_with (refine wpList_store_blk rfl 27 _ _ rfl w.heap.size #[.int .i64 0, .slice none 0 0] rfl rfl _ _ b6 tblr_size rfl (by simp [Value.oneCell']) ?_; intro W9 b9 k9)
      have e9 := kk6.trans k9 (S' := [w.heap.size]) (fun j hj hl => by have := List.mem_singleton.1 hj; omega)
      refine bodyPost_ret (v := .tuple #[.agg #[.int .i64 0, .slice none 0 0], .int .i64 14]) (res_cell_tmp rfl rfl rfl (loadr_tbl b9)) rfl ⟨e9.mono (by simp), ?_⟩
      rw [← HZZ.out]
      exact ⟨by decide, rfl, HC.out.keeps e9⟩
end

end Go.Proofs.YtcmagccfagijlaaGreat
