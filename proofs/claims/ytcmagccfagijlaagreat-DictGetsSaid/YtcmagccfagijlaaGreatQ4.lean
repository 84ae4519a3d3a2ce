/-
  What a description of a table says, in plain words: bits in, norms or an error out. (No program in sight.)
  append of a make, onto a slice of the call's own: so many zeros more. (No program in sight.)
  Rows of numbers that are changed in place.
  Walks over the reference of tables: States, Size, May.
  A flow in plain words: bits from the back, cells, symbols. (No program in sight.)
  Lists whose elements take several cells each, in memory: what a slice of them reads as; append. No program is in sight here.
  Two numbers to a byte; rows of bytes that are changed in place. No program is in sight here but for the type of a byte.
  Walk over the reference of package canon: Right.
  Bits packed into bytes, and a description of a table written, in plain words. (No walk is done here.)
  A range over a function whose iterator changes nothing and only reads the blocks X, which the rounds leave alone: the rounds may change all the rest. What the iterator promises (SeqZ), the law of the statement. No program is in sight here.
  slices.Backward over numbers: its iterator's contract.
  A region that draws its order and only reads, in the round of a range over a function: one walk of the lexical order serves every order. No program is in sight here.
  A region that draws its order and calls, in the round of a range over a function, walked as ONE line of steps (Held's). No program is in sight here.
  Walks over package canon: Check.
  What an argument's reading as data says of the value: arrays and structs of three numbers.
-/
import Derived.Test.YtcmagccfagijlaaGreatQ2
import Derived.Test.YtcmagccfagijlaaGreatQ1
import Derived.Lib.AppendZerosOnto
import Derived.Laws.OwnMore
import Derived.Test.YtcmagccfagijlaaGreatRows
import Derived.Deep.RegionHeld3
import Derived.Deep.RegionLaw
import Derived.OrdersIn
import Derived.Lib.SmallJoins
import Derived.Deep.Slices
import Derived.OpenShut
namespace Go.Proofs.YtcmagccfagijlaaGreat
section
/-- n bits from the front. -/
def tk (L : List Bool) (n : Nat) : Except Int (Nat × List Bool) := if n ≤ L.length then .ok (valL (L.take n), L.drop n) else .error 3
theorem tk_ok {L : List Bool} {n : Nat} (h : n ≤ L.length) : tk L n = .ok (valL (L.take n), L.drop n) := if_pos h
theorem tk_no {L : List Bool} {n : Nat} (h : L.length < n) : tk L n = .error 3 := if_neg (by omega)
theorem tk_lt {L L1 : List Bool} {n t : Nat} (h : tk L n = .ok (t, L1)) : t < 2 ^ n ∧ L1.length + n = L.length := by
  unfold tk at h
  split at h
  · rename_i hn
    injection h with h
    injection h with h1 h2
    subst h1 h2
    refine ⟨?_, by simp; omega⟩
    have := valL_lt (L.take n)
    rwa [List.length_take, Nat.min_eq_left hn] at this
  · cases h

/-- A number below m in truncated binary code. -/
def numP (L : List Bool) (m : Nat) : Except Int (Nat × List Bool) :=
  match tk L m.log2 with
  | .error e => .error e
  | .ok (t, L1) => if t < 2 ^ (m.log2 + 1) - m then .ok (t, L1) else
    match tk L1 1 with
    | .error e => .error e
    | .ok (c, L2) => .ok (2 * t + c - (2 ^ (m.log2 + 1) - m), L2)

theorem log2_le {m : Nat} (h : 0 < m) : 2 ^ m.log2 ≤ m := (Nat.le_log2 (by omega)).1 (Nat.le_refl _)
theorem log2_ltD {m : Nat} (h : 0 < m) : m < 2 ^ (m.log2 + 1) := (Nat.log2_lt (by omega)).1 (Nat.lt_succ_self _)

theorem numP_lt {L L1 : List Bool} {m v : Nat} (hm : 0 < m) (h : numP L m = .ok (v, L1)) : v < m ∧ L1.length + m.log2 ≤ L.length ∧ L.length ≤ L1.length + m.log2 + 1 := by
  unfold numP at h
  have h1 := log2_le hm
  have h2 := log2_ltD hm
  have h3 : 2 ^ (m.log2 + 1) = 2 * 2 ^ m.log2 := by rw [Nat.pow_succ]; omega
  split at h
  · cases h
  · rename_i t L0 ht
    obtain ⟨g1, g2⟩ := tk_lt ht
    split at h
    · injection h with h
      injection h with e1 e2
      subst e1 e2
      omega
    · split at h
      · cases h
      · rename_i c L2 hc
        obtain ⟨g3, g4⟩ := tk_lt hc
        injection h with h
        injection h with e1 e2
        subst e1 e2
        omega

/-- The zeros behind a norm of 0. -/
def zerosP (symbols : Nat) : Nat → List Bool → List Int → Except Int (List Int × List Bool)
  | 0, _, _ => .error 0
  | f + 1, L, out => if symbols ≤ out.length then .error 13 else
    match tk L 2 with
    | .error e => .error e
    | .ok (k, L1) => if k = 3 then zerosP symbols f L1 (out ++ List.replicate k 0) else .ok (out ++ List.replicate k 0, L1)

/-- The norms of a table with that many states. -/
def normsP (symbols : Nat) : Nat → List Bool → Nat → List Int → Bool → Except Int (List Int × List Bool)
  | 0, _, _, _, _ => .error 0
  | f + 1, L, left, out, ran => if left = 0 then .ok (out, L) else if symbols ≤ out.length then .error 13 else
    match numP L (left + 2) with
    | .error e => .error e
    | .ok (v, L1) => if v = 1 ∧ ran = true then .error 13 else
      if v = 1 then
        match zerosP symbols (symbols + 1) L1 (out ++ [(v : Int) - 1]) with
        | .error e => .error e
        | .ok (o, L2) => normsP symbols f L2 left o true
      else normsP symbols f L1 (left - (if v = 0 then 1 else v - 1)) (out ++ [(v : Int) - 1]) false

/-! More bits behind those that are read change nothing. -/
def more {α : Type} (Z : List Bool) : Except Int (α × List Bool) → Except Int (α × List Bool)
  | .error e => .error e
  | .ok (x, R) => .ok (x, R ++ Z)
theorem tk_app {A Z : List Bool} {n : Nat} (h : n ≤ A.length) : tk (A ++ Z) n = more Z (tk A n) := by
  rw [tk_ok h, tk_ok (by simp; omega), List.take_append_of_le_length h, List.drop_append_of_le_length h]
  rfl
theorem numP_app {A Z : List Bool} {m : Nat} (h : m.log2 + 1 ≤ A.length) : numP (A ++ Z) m = more Z (numP A m) := by
  unfold numP
  rw [tk_app (by omega)]
  cases ht : tk A m.log2 with
  | error e => rfl
  | ok x =>
    obtain ⟨t, L1⟩ := x
    obtain ⟨-, h2⟩ := tk_lt ht
    simp only [more]
    split
    · rfl
    · rw [tk_app (by omega)]
      cases tk L1 1 with
      | error e => rfl
      | ok y => rfl
theorem zerosP_len {symbols : Nat} : ∀ {f : Nat} {L L2 : List Bool} {out o : List Int}, zerosP symbols f L out = .ok (o, L2) → out.length ≤ o.length ∧ L2.length ≤ L.length ∧ L.length ≤ L2.length + 2 + 2 * (o.length - out.length) ∧ L.length ≤ L2.length + 2 * (symbols - out.length) := by
  intro f
  induction f with
  | zero => intro L L2 out o h; cases h
  | succ f ih =>
    intro L L2 out o h
    unfold zerosP at h
    split at h
    · cases h
    · split at h
      · cases h
      · rename_i k L1 hk
        obtain ⟨-, h2⟩ := tk_lt hk
        split at h
        · rename_i h3
          subst h3
          obtain ⟨g1, g2, g3, g4⟩ := ih h
          simp only [List.length_append, List.length_replicate] at g1 g3 g4
          omega
        · injection h with h
          injection h with e1 e2
          subst e1 e2
          simp only [List.length_append, List.length_replicate]
          omega
theorem zerosP_app {symbols : Nat} {Z : List Bool} : ∀ {f : Nat} {A : List Bool} {out : List Int}, 2 * (symbols - out.length) ≤ A.length → zerosP symbols f (A ++ Z) out = more Z (zerosP symbols f A out) := by
  intro f
  induction f with
  | zero => intro A out _; rfl
  | succ f ih =>
    intro A out h
    unfold zerosP
    split
    · rfl
    · rw [tk_app (by omega)]
      cases hk : tk A 2 with
      | error e => rfl
      | ok x =>
        obtain ⟨k, L1⟩ := x
        obtain ⟨-, h2⟩ := tk_lt hk
        simp only [more]
        split
        · rename_i h3
          subst h3
          exact ih (by simp only [List.length_append, List.length_replicate]; omega)
        · rfl

theorem log2_small {m : Nat} (h0 : 0 < m) (h : m ≤ 514) : m.log2 ≤ 9 := by
  have h1 := log2_le h0
  by_cases h2 : m.log2 ≤ 9
  · exact h2
  · have h3 : 2 ^ 10 ≤ 2 ^ m.log2 := Nat.pow_le_pow_right (by decide) (by omega)
    have h4 : (2 : Nat) ^ 10 = 1024 := by decide
    omega
theorem normsP_app {symbols : Nat} {Z : List Bool} : ∀ {f : Nat} {A : List Bool} {left : Nat} {out : List Int} {ran : Bool}, left ≤ 512 → 12 * (symbols - out.length) ≤ A.length → normsP symbols f (A ++ Z) left out ran = more Z (normsP symbols f A left out ran) := by
  intro f
  induction f with
  | zero => intro A left out ran _ _; rfl
  | succ f ih =>
    intro A left out ran hl h
    unfold normsP
    split
    · rfl
    · split
      · rfl
      · have h9 := log2_small (m := left + 2) (by omega) (by omega)
        rw [numP_app (by omega)]
        cases hk : numP A (left + 2) with
        | error e => rfl
        | ok x =>
          obtain ⟨v, L1⟩ := x
          obtain ⟨h1, h2, h3⟩ := numP_lt (by omega) hk
          simp only [more]
          split
          · rfl
          · split
            · rename_i hv
              rw [zerosP_app (by simp only [List.length_append, List.length_cons, List.length_nil]; omega)]
              cases hz : zerosP symbols (symbols + 1) L1 (out ++ [(v : Int) - 1]) with
              | error e => rfl
              | ok y =>
                obtain ⟨o, L2⟩ := y
                obtain ⟨g1, g2, g3, g4⟩ := zerosP_len hz
                simp only [List.length_append, List.length_cons, List.length_nil] at g1 g3 g4
                exact ih hl (by omega)
            · refine ih ?_ ?_
              · split <;> omega
              · simp only [List.length_append, List.length_cons, List.length_nil]
                omega
end

section
set_option linter.unusedVariables false
set_option linter.unusedSimpArgs false
set_option linter.unusedSectionVars false
open Go.RowKit

theorem zeroCells_one (z : Value) (m : Nat) : Builtin.zeroCells #[z] m = (List.replicate m z).toArray := by
  unfold Builtin.zeroCells
  apply Array.ext
  · simp
  · intro i h1 h2
    simp [Nat.mod_one]

theorem run_append_zeros {P : Program} {w : World} (base : Nat) (t tn ty e : TypeId) (i : TypeInfo) (z : Value) (kq kn : IntKind) (bytes : Nat) (ht : P.underlying t = some (.slice e)) (htn : P.underlying tn = some (.int kn)) (hi : P.info? e = some i) (hz : i.zero = some z)
    (hsize : i.size = 1) (hby : i.bytes = bytes) (hzs : z.cells = #[z]) (hz1 : z.oneCell' = true) (v : Value) (n : Nat) (xs : List Value) (hown : w.ownsRow base e 1 v n xs) (m : Nat) (h63 : n + m ≤ maxLen) (hbytes : (n + m) * bytes ≤ 140737488355328) (hbase : base ≤ w.heap.size) :
    ∃ v' w', (Builtin.append_ #[t, tn] ty #[v, .int kq m]).run P w = .ok v' w' ∧ w'.ownsRow base e 1 v' (n + m) (xs ++ List.replicate m z) ∧ w.grownBy w' v.ownBlock := by
  subst hby
  have hsmall : n + m ≤ 9223372036854775807 := by simp only [maxLen] at h63; omega
  have hw : IntKind.i64.wrap (m : Int) = m := by rw [IntKind.wrap_i64]; omega
  have hneg : ¬ ((m : Int) < 0) := by omega
  have hmb : m * i.bytes ≤ (n + m) * i.bytes := Nat.mul_le_mul_right _ (by omega)
  have h48i : ¬ (281474976710656 < (m : Int) * (i.bytes : Int)) := by rw [← Int.natCast_mul]; omega
  have hlen : (xs ++ List.replicate m z).length = (n + m) * 1 := by rw [List.length_append, hown.1, List.length_replicate]; omega
  by_cases hm : m = 0
  · subst hm
    have hw0 : IntKind.i64.wrap 0 = 0 := by decide
    refine ⟨v, w, ?_, by simpa using hown, grown_refl w _⟩
    rcases hown.2 with ⟨rfl, rfl⟩ | ⟨g, cap, cur, rfl, hbg, hg, hnc, hcm, hcs, htake⟩
    · simp [Builtin.append_, run_underlying ht, run_underlying htn, sizeOf, typeInfo, hi, asInt, asIntOf, hw0]
    · simp [Builtin.append_, run_underlying ht, run_underlying htn, sizeOf, typeInfo, hi, asInt, asIntOf, hw0, hnc, storeCells]
  · have hns : ¬ (m * i.size = 0) := Nat.mul_ne_zero hm (by omega)
    have grown : ∀ (old : Nat), old < n + m → ∀ (row : Option Nat),
        (w.drew.alloc (.cells (xs.toArray ++ Builtin.zeroCells z.cells m ++ Builtin.zeroCells z.cells (grownCap w (n + m) old e - (n + m))) e)).ownsRow base e 1
          (.slice (some ⟨w.heap.size, 0, none⟩) (n + m) (grownCap w (n + m) old e)) (n + m) (xs ++ List.replicate m z) ∧
        w.grownBy (w.drew.alloc (.cells (xs.toArray ++ Builtin.zeroCells z.cells m ++ Builtin.zeroCells z.cells (grownCap w (n + m) old e - (n + m))) e)) row := by
      intro old ho row
      have hge := grownCap_ge w (n + m) old e
      have hcm : grownCap w (n + m) old e ≤ maxLen := grownCap_le_maxLen w (n + m) old e h63
      have hxl := hown.1
      rw [hzs, zeroCells_one, zeroCells_one]
      refine ⟨⟨hlen, .inr ⟨w.heap.size, _, _, rfl, hbase, heap_alloc_new w.drew _, hge, hcm, ?_, ?_⟩⟩, ⟨rfl, rfl, rfl, by simp, fun k hk _ => Below.heap_alloc w.drew _ k (by simpa using hk)⟩⟩
      · simp only [Array.size_append, List.size_toArray, List.length_replicate]
        omega
      · simp only [Array.toList_append, List.append_assoc]
        rw [← List.append_assoc, ← hlen]
        exact List.take_left
    rcases hown.2 with ⟨rfl, rfl⟩ | ⟨g, cap, cur, rfl, hbg, hg, hnc, hcm, hcs, htake⟩
    · have hx : xs = [] := List.eq_nil_of_length_eq_zero (by simpa using hown.1)
      subst hx
      have hr := Lib.run_append_nil_zeros (P := P) w t tn ty e i z kq kn ht htn hi hz m (by omega) (by omega) (by omega) (by omega)
      have hgr := grown 0 (by omega) (Value.ownBlock (.slice none 0 0))
      simp only [Nat.zero_add, List.nil_append, Array.empty_append] at hgr ⊢
      exact ⟨_, _, hr, hgr.1, hgr.2⟩
    · by_cases hroom : n + m ≤ cap
      · have hst := run_storeCells_at P g n e (List.replicate m z) 0 cur w hg (by rw [List.length_replicate]; omega) (fun u hu => by rw [(List.mem_replicate.1 hu).2]; exact hz1)
        simp only [Nat.add_zero] at hst
        have hz0 : (zeroValue e).run P w = .ok z w := by simp [zeroValue, typeInfo, hi, hz]
        have hr : (Builtin.append_ #[t, tn] ty #[.slice (some ⟨g, 0, none⟩) n cap, .int kq m]).run P w = .ok (.slice (some ⟨g, 0, none⟩) (n + m) cap) (w.setRow g (cur.toList.take n ++ List.replicate m z ++ cur.toList.drop (n + (List.replicate m z).length)).toArray) := by
          simp [Builtin.append_, run_underlying ht, run_underlying htn, sizeOf, typeInfo, hi, asInt, asIntOf, hw, hneg, h48i, hm, hsize, hz0, hzs, zeroCells_one, hroom, Addr.add_lit, hst]
        refine ⟨_, _, hr, ⟨hlen, .inr ⟨g, cap, _, rfl, hbg, setRow_heap w g cur _ e _ hg, hroom, hcm, ?_, ?_⟩⟩, ⟨rfl, rfl, rfl, by simp, fun k _ hk => setRow_other w g k _ (fun e => hk (by simp [Value.ownBlock, e]))⟩⟩
        · simp only [List.size_toArray, List.length_append, List.length_take, List.length_drop, Array.length_toList, List.length_replicate]
          omega
        · rw [Nat.mul_one] at htake
          rw [htake, ← hlen]
          exact List.take_left
      · have holds : ∀ j u, xs[j]? = some u → w.cell? ((⟨g, 0, none⟩ : Addr).add j) = some u := hown.cells (g := g) rfl
        have hr := Lib.run_append_grow_zeros (P := P) w t tn ty e i z kq kn ht htn hi hz (some ⟨g, 0, none⟩) n cap xs (run_firstCells_some (P := P) w.drew i.size n ⟨g, 0, none⟩ n cap xs (by rw [hown.1, hsize]) holds) m (by omega) (by omega) (by omega) (by omega) (by omega) (growslice_fits (by omega) hbytes)
        have hgr := grown cap (by omega) (Value.ownBlock (.slice (some ⟨g, 0, none⟩) n cap))
        exact ⟨_, _, hr, hgr.1, hgr.2⟩

/-- The same as an operation of the walk. -/
theorem wpList_append_zeros {P : Program} {ops : Array Oper} {rest : List Oper} {o : Oper} {a : Act} {w : World} {Q : Exit → Act → World → Prop} (hgd : o.guard = none) (s x : Operand) (t tn : TypeId)
    (ho : o.op = .call { callee := .builtin .append, args := #[s, x], argTypes := #[t, tn] })
    (base : Nat) (e : TypeId) (i : TypeInfo) (z : Value) (kq kn : IntKind) (bytes : Nat) (ht : P.underlying t = some (.slice e)) (htn : P.underlying tn = some (.int kn)) (hi : P.info? e = some i) (hz : i.zero = some z)
    (hsize : i.size = 1) (hby : i.bytes = bytes) (hzs : z.cells = #[z]) (hz1 : z.oneCell' = true) (v : Value) (n : Nat) (xs : List Value) (hs : a.eval s = v) (hown : w.ownsRow base e 1 v n xs) (m : Nat) (hx : a.eval x = .int kq m) (h63 : n + m ≤ maxLen) (hbytes : (n + m) * bytes ≤ 140737488355328) (hbase : base ≤ w.heap.size)
    (h : ∀ a' c' w', w'.ownsRow base e 1 (.slice a' (n + m) c') (n + m) (xs ++ List.replicate m z) → Keeps w w' (match v.ownBlock with | some g => [g] | none => []) → wpList P ops Q rest (a.put o.dst (.slice a' (n + m) c')) w') :
    wpList P ops Q (o :: rest) a w := by
  obtain ⟨v', w', hr, h1, h2⟩ := run_append_zeros (P := P) (w := w) base t tn o.type e i z kq kn bytes ht htn hi hz hsize hby hzs hz1 v n xs hown m h63 hbytes hbase
  obtain ⟨a', c', rfl⟩ := own_form h1
  exact Lib.wpList_append_run w hgd s x t tn ho _ _ hs hx _ _ hr (h a' c' w' h1 (Keeps.of_grown h2 (fun k hk => by rw [hk]; simp)))
end

section
set_option linter.unusedVariables false
set_option linter.unusedSimpArgs false
open Go.RowKit

/-- A row of numbers in a block of its own. -/
def RowI (w : World) (g n c : Nat) (L : List Int) : Prop := L.length = n ∧ w.ownsRow 0 3 1 (.slice (some ⟨g, 0, none⟩) n c) n (L.map (.int .i64))

section
variable {w w' : World} {g n c : Nat} {L : List Int}
theorem RowI.at (h : RowI w g n c L) {i : Nat} {x : Int} (hx : L[i]? = some x) : w.cell? ⟨g, i, none⟩ = some (.int .i64 x) := by
  have hlt := (List.getElem?_eq_some_iff.1 hx).1
  rw [h.2.cellAt i (by have := h.1; omega), List.getElem?_map, hx]; rfl
theorem RowI.frozen (h : RowI w g n c L) (i : Nat) : w.frozen? ⟨g, i, none⟩ = false := h.2.frozenAt i
theorem RowI.cap (h : RowI w g n c L) : n ≤ c := by
  rcases h.2.2 with ⟨h1, h2⟩ | ⟨g', cp, cur, h1, -, -, h4, -⟩
  · cases h1
  · cases h1; exact h4
theorem RowI.lt (h : RowI w g n c L) : g < w.heap.size := (h.2.lt g rfl).2
theorem RowI.set (h : RowI w g n c L) (i : Nat) (x : Int) : RowI (w.setCell ⟨g, i, none⟩ (.int .i64 x)) g n c (L.set i x) :=
  ⟨by rw [List.length_set]; exact h.1, by rw [List.map_set]; exact (h.2.stored i _).1⟩
theorem RowI.keeps {S : List Nat} (h : RowI w g n c L) (k : Keeps w w' S) (hn : g ∉ S) : RowI w' g n c L := by
  refine ⟨h.1, ?_⟩
  obtain ⟨h1, h2⟩ := h.2
  refine ⟨h1, ?_⟩
  rcases h2 with h2 | ⟨g', cp, cur, e, hg, hb, r⟩
  · exact .inl h2
  · cases e
    exact .inr ⟨g, c, cur, rfl, hg, (k.block g (Array.getElem?_eq_some_iff.1 hb).1 hn).trans hb, r⟩
theorem RowI.drew (h : RowI w g n c L) : RowI w.drew g n c L := h
theorem RowI.drewN (h : RowI w g n c L) (m : Nat) : RowI (w.drewN m) g n c L := h
theorem RowI.reads (h : RowI w g n c L) : RdI .i64 w (.slice (some ⟨g, 0, none⟩) n c) L := by
  have h2 := h.2
  rw [← h.1] at h2 ⊢
  exact own_reads h2
end

theorem rowI_own {w : World} {base : Nat} {g n c : Nat} {L : List Int} (hl : L.length = n) (h : w.ownsRow base 3 1 (.slice (some ⟨g, 0, none⟩) n c) n (L.map (.int .i64))) : RowI w g n c L := ⟨hl, own_base h (Nat.zero_le _)⟩
end

section
set_option linter.unusedVariables false
set_option linter.unusedSimpArgs false
set_option linter.unusedSectionVars false
open Go.RowKit

theorem rstates_any (x : Int) (w : World) : Calls Tryz.prog 76 #[.int .i64 x] w fun e w' => e = .returned (.int .i64 (stN x)) ∧ w = w' := by
  by_cases h : x = -1
  · subst h
    go_enter Tryz.func76, Tryz.ntmps76
    go_wp2
    go_ret
    exact ⟨rfl, rfl⟩
  · have h1 : (x == -1) = false := by simpa using h
    have h2 : stN x = x := if_neg h
    rw [h2]
    go_enter Tryz.func76, Tryz.ntmps76
    go_wp2
    go_ret
    exact ⟨rfl, rfl⟩

theorem rsize_any (g : Int) (w : World) (h0 : 0 ≤ g) (h9 : g ≤ 9) : Calls Tryz.prog 77 #[.int .i64 g] w fun e w' => e = .returned (.int .i64 (2 ^ g.toNat)) ∧ w = w' := by
  obtain ⟨n, rfl⟩ := Int.eq_ofNat_of_zero_le h0
  have hn : n ≤ 9 := by omega
  have h1 : decide ((n : Int) < 0) = false := by simp
  have h2 : decide ((20 : Int) < (n : Int)) = false := by simp; omega
  have hE : (2 : Int) ^ ((n : Int).toNat) = 2 ^ n := by simp
  rw [hE]
  clear h0 h9 hE
  go_enter Tryz.func77, Tryz.ntmps77
  go_wp2_with fail
  go_loop [3, 4] (fun s i => ∃ k : Nat, k ≤ n ∧ s = .int .i64 (2 ^ k) ∧ i = .int .i64 k) (fun _ i => n - (intOf i).toNat)
  case atStart => exact ⟨0, Nat.zero_le _, rfl, rfl⟩
  case round =>
    obtain ⟨k, hk, rfl, rfl⟩ := hrel
    by_cases hlt : k < n
    · have hkn : (k : Int) < (n : Int) := by omega
      have hp : wrap64 (2 * 2 ^ k) = 2 ^ (k + 1) := by
        have h9 := pow9 (g := (k : Int)) (by omega)
        simp only [Int.toNat_natCast] at h9
        rw [IntWalk.wrap64_in _ ⟨by omega, by omega⟩, Int.pow_succ]
        omega
      go_wp2_with fail
      go_round
      case rel => exact ⟨k + 1, by omega, (by first | rfl | trivial | exact hp | simp [hp]), by go_num⟩
      case measure => simp [intOf]; omega
    · have : k = n := by omega
      subst this
      go_wp2_with fail
      go_ret
      exact ⟨rfl, rfl⟩

set_option maxRecDepth 100000 in
set_option maxHeartbeats 4000000 in
theorem rmay_any (g sy lg : Int) (v : Value) (l : List Int) (w : World) (hv : RdI .i64 w v l) (hn : l.length ≤ 1000000) (hg9 : lg ≤ 9) :
    Calls Tryz.prog 46 #[.agg #[.int .i64 g, v], .int .i64 sy, .int .i64 lg] w fun e w' => e = .returned (.int .i64 (if okN g l sy lg then 0 else 13)) ∧ Keeps w w' [] := by
  obtain ⟨A0, n, cp0, rfl, hnl, -⟩ := hv.form
  have k0 := (Keeps.refl w []).alloc (.cells #[.int .i64 g, .slice A0 n cp0] 27)
  have HV := Lib.hid (hv.keeps k0)
  have bt := Blk.new w #[.int .i64 g, .slice A0 n cp0] 27
  have HN := Lib.hid hnl
  have hn' : n ≤ 1000000 := by omega
  obtain ⟨E, hE⟩ : ∃ E : Int, (if okN g l sy lg then 0 else 13) = E := ⟨_, rfl⟩
  have HE := Lib.hid hE
  have HE0 : Hid (okN g l sy lg = false → E = 13) := fun h => by rw [← HE.out, h]; rfl
  rw [hE]
  clear hv hnl hn hE
  obtain ⟨R1, e1⟩ : ∃ R, decide (g < 0) = R := ⟨_, rfl⟩
  obtain ⟨R2, e2⟩ : ∃ R, decide (lg < g) = R := ⟨_, rfl⟩
  obtain ⟨R3, e3⟩ : ∃ R, decide (9 < g) = R := ⟨_, rfl⟩
  by_cases hn0 : n = 0
  · subst hn0
    clear bt
    have hno : Hid (E = 13) := HE0.out (okN_false (fun h => by have := HN.out; omega))
    go_enter Tryz.func46, Tryz.ntmps46
    go_wp2_with fail
    all_goals
      go_ret
      exact ⟨by rw [hno.out]; rfl, k0⟩
  obtain ⟨m, rfl⟩ : ∃ m, n = m + 1 := ⟨n - 1, by omega⟩
  obtain ⟨y, hy⟩ : ∃ y, l[m]? = some y := ⟨_, List.getElem?_eq_getElem (by have := HN.out; omega)⟩
  have HY : Hid (l.getD (l.length - 1) 0 = y) := by
    show _ = _
    rw [← HN.out, Nat.add_sub_cancel, List.getD_eq_getElem?_getD, hy]; rfl
  obtain ⟨bb, o, rfl, hbb, hc⟩ := HV.out.at hy
  have hcap := HV.out.cap
  obtain ⟨R4, e4⟩ : ∃ R, decide (sy < ((m : Int) + 1)) = R := ⟨_, rfl⟩
  obtain ⟨R5, e5⟩ : ∃ R, (y == 0) = R := ⟨_, rfl⟩
  have HX : Hid (R1 = true ∨ R2 = true ∨ R3 = true ∨ R4 = true ∨ R5 = true → E = 13) := fun h => HE0.out (okN_false (fun q => by
    have hl := HN.out
    obtain ⟨q1, q2, q3, q4, q5, -, -⟩ := q
    rw [HY.out] at q5
    rcases h with h | h | h | h | h
    · rw [h] at e1; simp at e1; omega
    · rw [h] at e2; simp at e2; omega
    · rw [h] at e3; simp at e3; omega
    · rw [h] at e4; simp at e4; omega
    · rw [h] at e5; simp at e5; exact q5 e5))
  have HG : Hid (R1 = false → R2 = false → R4 = false → R5 = false → 0 ≤ g ∧ g ≤ lg ∧ (∀ (h6 : ∀ n ∈ l, -1 ≤ n), E = if sumN l = 2 ^ g.toNat then 0 else 13)) := fun h1 h2 h4 h5 => by
    have a1 : 0 ≤ g := by rw [← e1] at h1; simp at h1; omega
    have a2 : g ≤ lg := by rw [← e2] at h2; simp at h2; omega
    have a4 : (l.length : Int) ≤ sy := by rw [← e4] at h4; simp at h4; have := HN.out; omega
    have a5 : y ≠ 0 := by rw [← e5] at h5; simpa using h5
    refine ⟨a1, a2, fun h6 => ?_⟩
    rw [← HE.out, okN_sum a1 a2 (by have := HN.out; omega) a4 (by rw [HY.out]; exact a5) h6]
    simp
  clear hy
  have hz0 : decide ((m : Int) + 1 < 1) = false := by simp; omega
  go_enter Tryz.func46, Tryz.ntmps46
  go_wp2_with fail
  all_goals first
    | (go_ret; exact ⟨by rw [HX.out (by simp [*])]; rfl, k0⟩)
    | skip
  have hg3 := HG.out (by simp_all) (by simp_all) (by simp_all) (by simp_all)
  obtain ⟨g0, glg, HEE0⟩ := hg3
  have HEE := Lib.hid HEE0
  have HS := Lib.hid (fun w1 => rsize_any g w1 g0 (by omega))
  have HP2 := Lib.hid (pow9 (g := g) (by omega))
  clear HX HG e1 e2 e3 e4 e5 HY hc hz0 HEE0
  obtain rfl : R4 = false := by simp_all
  obtain rfl : R5 = false := by simp_all
  generalize hP : (2 : Int) ^ g.toNat = P2 at *
  have HPE := Lib.hid hP
  generalize hW0 : (w.alloc (.cells #[.int .i64 g, .slice (some ⟨bb, o, none⟩) (m + 1) cp0] 27)) = W0 at *
  clear hW0 hP
  have c0 := bt.cell 0
  have c1 := bt.cell 1
  simp at c0 c1
  go_loopw [7, 8] (fun s7 s8 wr => ∃ k : Nat, k ≤ m + 1 ∧ s7 = .int .i64 (sumN (l.take k)) ∧ s8 = .int .i64 k ∧ wr = W0 ∧ Hid (∀ x ∈ l.take k, -1 ≤ x) ∧ Hid (sumN (l.take k) ≤ 1024)) (fun _ s8 _ => m + 1 - (intOf s8).toNat)
  case atStart => exact ⟨0, Nat.zero_le _, by simp [sumN], rfl, rfl, by show ∀ x ∈ _, _; simp, by show _ ≤ _; simp [sumN]⟩
  case round =>
    obtain ⟨k, hk, rfl, rfl, rfl, hge, hle⟩ := hrel
    by_cases hlt : k < m + 1
    · obtain ⟨x, hx⟩ : ∃ x, l[k]? = some x := ⟨_, List.getElem?_eq_getElem (by have := HN.out; omega)⟩
      obtain ⟨bb', o', e', hbb', hcx⟩ := HV.out.at hx
      cases e'
      have hkn : (k : Int) < (m : Int) + 1 := by omega
      have hk0 : (0 : Int) ≤ (k : Int) := Int.natCast_nonneg _
      have HXg := Lib.hid hx
      clear hx
      have hle' := hle.out
      have hs0 := sumN_nonneg hge.out
      have hP2 := HP2.out.2
      have HBIG : Hid ((x < -1 ∨ 512 < x ∨ 512 < sumN (l.take k)) → E = 13) := fun h => HE0.out (by
        rcases (by omega : x < -1 ∨ -1 ≤ x) with h1 | h1
        · exact okN_low HXg.out h1
        · refine okN_big HXg.out ?_
          rw [HPE.out]
          have h2 := stN_nonneg h1
          have h3 := stN_max h1
          omega)
      by_cases hbad : x < -1 ∨ 512 < x ∨ 512 < sumN (l.take k)
      · have F13 : Hid (E = 13) := HBIG.out hbad
        obtain ⟨Q1, f1⟩ : ∃ R, decide (x < -1) = R := ⟨_, rfl⟩
        obtain ⟨Q2, f2⟩ : ∃ R, decide (512 < x) = R := ⟨_, rfl⟩
        obtain ⟨Q3, f3⟩ : ∃ R, decide (512 < sumN (l.take k)) = R := ⟨_, rfl⟩
        have hq : (Q1 || (Q2 || Q3)) = true := by rw [← f1, ← f2, ← f3]; simpa using hbad
        have HQ := Lib.hid hq
        clear hbad hs0 hle' hP2 hq
        go_wp2_with fail
        all_goals first
          | (go_ret; exact ⟨by rw [F13.out]; rfl, k0⟩)
          | (exfalso; have := HQ.out; simp_all)
      · have f1 : decide (x < -1) = false := by simp; omega
        have f2 : decide (512 < x) = false := by simp; omega
        have f3 : decide (512 < sumN (l.take k)) = false := by simp; omega
        have hge1 : -1 ≤ x := by omega
        have hst := stN_nonneg hge1
        have hst2 := stN_max hge1
        have NS := Lib.hid (sumN_take HXg.out)
        have hw2 : wrap64 (sumN (l.take k) + stN x) = sumN (l.take k) + stN x := IntWalk.wrap64_in _ ⟨by omega, by omega⟩
        have NG : Hid (∀ y ∈ l.take (k + 1), -1 ≤ y) := by
          show ∀ y ∈ _, _
          rw [take_next HXg.out]
          intro y hy
          rcases List.mem_append.1 hy with hy | hy
          · exact hge.out y hy
          · rw [List.mem_singleton.1 hy]; omega
        have NL : Hid (sumN (l.take (k + 1)) ≤ 1024) := by show _ ≤ _; rw [NS.out]; omega
        clear hbad hs0 hle' hP2 hst hst2 hge1
        generalize sumN (l.take k) = SK at *
        go_wp2_with (go_at_call 76; refine (rstates_any x _).mono ?_; rintro e w5 ⟨rfl, rfl⟩)
        go_roundw
        case rel => exact ⟨k + 1, by omega, (by first | rw [NS.out, hw2] | rw [NS.out]), by go_num, (by first | rfl | trivial), NG, NL⟩
        case measure => simp [intOf]; omega
    · have : k = m + 1 := by omega
      subst this
      have hT : l.take (m + 1) = l := List.take_of_length_le (by have := HN.out; omega)
      rw [hT] at hge hle ⊢
      have F := Lib.hid (HEE.out hge.out)
      have hkn : ¬ ((m : Int) + 1 < (m : Int) + 1) := by omega
      by_cases hq : sumN l = P2
      · have gq : (sumN l != P2) = false := by simpa using hq
        rw [if_pos hq] at F
        clear hq hT
        generalize sumN l = SL at *
        go_wp2_with (go_at_call 77; refine (HS.out _).mono ?_; rintro e w5 ⟨rfl, rfl⟩)
        go_ret
        exact ⟨by rw [F.out]; rfl, k0⟩
      · have gq : (sumN l != P2) = true := by simpa using hq
        rw [if_neg hq] at F
        clear hq hT
        generalize sumN l = SL at *
        go_wp2_with (go_at_call 77; refine (HS.out _).mono ?_; rintro e w5 ⟨rfl, rfl⟩)
        go_ret
        exact ⟨by rw [F.out]; rfl, k0⟩
end

section
/-- n bits from the back. -/
def tb (R : List Bool) (n : Nat) : Except Int (Nat × List Bool) := if n ≤ R.length then .ok (valL (R.drop (R.length - n)), R.take (R.length - n)) else .error 14
theorem tb_ok {R : List Bool} {n : Nat} (h : n ≤ R.length) : tb R n = .ok (valL (R.drop (R.length - n)), R.take (R.length - n)) := if_pos h
theorem tb_no {R : List Bool} {n : Nat} (h : R.length < n) : tb R n = .error 14 := if_neg (by omega)
theorem tb_lt {R R1 : List Bool} {n t : Nat} (h : tb R n = .ok (t, R1)) : t < 2 ^ n ∧ R1.length + n = R.length := by
  unfold tb at h
  split at h
  · rename_i hn
    injection h with h
    injection h with h1 h2
    subst h1 h2
    refine ⟨?_, by simp; omega⟩
    have := valL_lt (R.drop (R.length - n))
    rwa [List.length_drop, show R.length - (R.length - n) = n by omega] at this
  · cases h

/-- A cell: its symbol, its bits, its base. -/
abbrev Cel := Nat × Nat × Nat
/-- k symbols are left; now is the state of the next one, other that of the one behind it. -/
def flowG (c : Nat → Cel) : Nat → List Bool → Nat → Nat → List Int → Except Int (List Int)
  | 0, R, _, _, out => if R.length = 0 then .ok out else .error 14
  | k + 1, R, now, other, out =>
    if 2 ≤ k then
      match tb R (c now).2.1 with
      | .error e => .error e
      | .ok (v, R1) => flowG c k R1 other ((c now).2.2 + v) (out ++ [((c now).1 : Int)])
    else flowG c k R other now (out ++ [((c now).1 : Int)])

/-- The symbols of a flow of n symbols at a table with that log and these cells. -/
def flowP (c : Nat → Cel) (log n : Nat) (R : List Bool) : Except Int (List Int) :=
  match (if 0 < n then tb R log else .ok (0, R)) with
  | .error e => .error e
  | .ok (a, R1) => match (if 1 < n then tb R1 log else .ok (0, R1)) with
    | .error e => .error e
    | .ok (b, R2) => flowG c n R2 a b []

/-- The number of bits that a state of a symbol's x-th cell reads, and its base. -/
theorem cell_in {log x : Nat} (h0 : 0 < x) (h : x < 2 * 2 ^ log) : x.log2 ≤ log ∧ 2 ^ log ≤ x * 2 ^ (log - x.log2) ∧ (x + 1) * 2 ^ (log - x.log2) ≤ 2 * 2 ^ log := by
  have h1 : 2 ^ x.log2 ≤ x := (Nat.le_log2 (by omega)).1 (Nat.le_refl _)
  have h2 : x < 2 ^ (x.log2 + 1) := (Nat.log2_lt (by omega)).1 (Nat.lt_succ_self _)
  have h3 : x.log2 ≤ log := by
    have h4 : x.log2 < log + 1 := (Nat.log2_lt (by omega)).2 (by rw [Nat.pow_succ]; omega)
    omega
  have h5 : 2 ^ log = 2 ^ x.log2 * 2 ^ (log - x.log2) := by rw [← Nat.pow_add, show x.log2 + (log - x.log2) = log by omega]
  refine ⟨h3, ?_, ?_⟩
  · rw [h5]; exact Nat.mul_le_mul_right _ h1
  · have h6 : x + 1 ≤ 2 * 2 ^ x.log2 := by rw [Nat.pow_succ] at h2; omega
    rw [h5, ← Nat.mul_assoc]
    exact Nat.mul_le_mul_right _ h6
end

section
set_option linter.unusedVariables false
set_option linter.unusedSimpArgs false
set_option linter.unusedSectionVars false
open Go.RowKit

section
variable {α : Type} (row : α → List Value) (W : Nat)
def cellsW : List α → List Value
  | [] => []
  | x :: l => row x ++ cellsW l
/-- A slice value reads as a list of elements, each as its row of W cells. -/
structure RdW (w : World) (v : Value) (l : List α) : Prop where
  form : ∃ a n cp, v = .slice a n cp ∧ n = l.length ∧ n ≤ cp ∧ (a = none → n = 0 ∧ cp = 0) ∧ (0 < n → ∃ b o, a = some ⟨b, o, none⟩ ∧ b < w.heap.size ∧ ∀ i x, l[i]? = some x → w.rangeAt b (o + i * W) (row x))
end

section
variable {α : Type} {row : α → List Value} {W : Nat} (hW : ∀ x, (row x).length = W) (h1W : ∀ x, ∀ u ∈ row x, u.oneCell' = true)
include hW
theorem cellsW_length (l : List α) : (cellsW row l).length = l.length * W := by
  induction l with
  | nil => simp [cellsW]
  | cons x l ih => simp only [cellsW, List.length_append, List.length_cons, ih, hW, Nat.succ_mul]; omega
theorem cellsW_append (l m : List α) : cellsW row (l ++ m) = cellsW row l ++ cellsW row m := by
  induction l with
  | nil => simp [cellsW]
  | cons x l ih => simp [cellsW, ih]
theorem cellsW_get {l : List α} {i j : Nat} {x : α} {u : Value} (h : l[i]? = some x) (hu : (row x)[j]? = some u) : (cellsW row l)[i * W + j]? = some u := by
  induction l generalizing i with
  | nil => simp at h
  | cons y l ih =>
    have hj : j < W := by have := (List.getElem?_eq_some_iff.1 hu).1; rw [hW] at this; exact this
    cases i with
    | zero =>
      simp at h; subst h
      simp only [cellsW, Nat.zero_mul, Nat.zero_add]
      rw [List.getElem?_append_left (by rw [hW]; exact hj)]
      exact hu
    | succ i =>
      simp at h
      have h2 := ih h
      simp only [cellsW]
      rw [List.getElem?_append_right (by rw [hW, Nat.succ_mul]; omega), hW, show (i + 1) * W + j - W = i * W + j by rw [Nat.succ_mul]; omega]
      exact h2
theorem cellsW_at (hP : 0 < W) {l : List α} {j : Nat} {u : Value} (h : (cellsW row l)[j]? = some u) : ∃ x, l[j / W]? = some x ∧ (row x)[j % W]? = some u := by
  have hl := (List.getElem?_eq_some_iff.1 h).1
  rw [cellsW_length hW] at hl
  have hd : j / W < l.length := Nat.div_lt_of_lt_mul (by rw [Nat.mul_comm]; exact hl)
  obtain ⟨x, hx⟩ : ∃ x, l[j / W]? = some x := ⟨_, List.getElem?_eq_getElem hd⟩
  have hm : j % W < (row x).length := by rw [hW]; exact Nat.mod_lt _ hP
  have h2 := cellsW_get hW (u := (row x)[j % W]) hx (List.getElem?_eq_getElem hm)
  rw [show j / W * W + j % W = j by rw [Nat.mul_comm]; exact Nat.div_add_mod j W, h] at h2
  exact ⟨x, hx, by rw [List.getElem?_eq_getElem hm]; exact h2.symm⟩
variable {w w' : World} {v : Value} {l : List α} {a : Option Addr} {n cp : Nat}
omit hW
theorem RdW.nil : RdW row W w (.slice none 0 0) [] := ⟨_, _, _, rfl, rfl, Nat.le_refl _, fun _ => ⟨rfl, rfl⟩, fun h => absurd h (by omega)⟩
theorem RdW.keeps {S : List Nat} (h : RdW row W w v l) (k : Keeps w w' S) (hn : ∀ ad n cp, v = .slice (some ad) n cp → 0 < n → ad.block ∉ S) : RdW row W w' v l := by
  obtain ⟨a, n, cp, rfl, h1, h2, h3, hc⟩ := h.form
  refine ⟨a, n, cp, rfl, h1, h2, h3, fun h0 => ?_⟩
  obtain ⟨b, o, rfl, hb, h4⟩ := hc h0
  have hnb := hn _ _ _ rfl h0
  exact ⟨b, o, rfl, Nat.lt_of_lt_of_le hb k.size, fun i x hx j u hu => (k.cell (p := ⟨b, o + i * W + j, none⟩) hb hnb).trans (h4 i x hx j u hu)⟩
theorem RdW.keep (h : RdW row W w v l) (k : Keeps w w' []) : RdW row W w' v l := h.keeps k (fun _ _ _ _ _ => by simp)
theorem RdW.len (h : RdW row W w (.slice a n cp) l) : n = l.length := by
  obtain ⟨a', n', cp', he, h1, -⟩ := h.form
  cases he; exact h1
theorem RdW.cap (h : RdW row W w (.slice a n cp) l) : n ≤ cp := by
  obtain ⟨a', n', cp', he, h1, h2, -⟩ := h.form
  cases he; exact h2
theorem RdW.at (h : RdW row W w (.slice a n cp) l) {i : Nat} {x : α} (hx : l[i]? = some x) : ∃ b o, a = some ⟨b, o, none⟩ ∧ b < w.heap.size ∧ w.rangeAt b (o + i * W) (row x) := by
  obtain ⟨a', n', cp', he, h1, h2, h3, hc⟩ := h.form
  cases he
  have hlt := (List.getElem?_eq_some_iff.1 hx).1
  obtain ⟨b, o, e, hb, h4⟩ := hc (by omega)
  exact ⟨b, o, e, hb, h4 i x hx⟩
include hW
/-- The cells, as append asks for them. -/
theorem RdW.news (hP : 0 < W) {ad : Addr} (h : RdW row W w (.slice (some ad) n cp) l) : ∀ j u, (cellsW row l)[j]? = some u → w.cell? (ad.add j) = some u := by
  intro j u hj
  obtain ⟨x, hx, hu⟩ := cellsW_at hW hP hj
  obtain ⟨b, o, e, hb, h1⟩ := h.at hx
  cases e
  have e : (⟨b, o, none⟩ : Addr).add j = ⟨b, o + j, none⟩ := by simp [Addr.add]
  rw [e, show o + j = o + j / W * W + j % W by have := Nat.div_add_mod j W; rw [Nat.mul_comm] at this; omega]
  exact h1 _ u hu
/-- An owned row reads as the list. -/
theorem ownW_reads {base : Nat} {e : TypeId} (h : w.ownsRow base e W v l.length (cellsW row l)) : RdW row W w v l := by
  rcases h.2 with ⟨rfl, h0⟩ | ⟨g, cp, cur, rfl, hb, hg, hn, hm, hs, ht⟩
  · exact ⟨_, _, _, rfl, h0.symm, Nat.le_refl _, fun _ => ⟨rfl, rfl⟩, fun h => by omega⟩
  · refine ⟨_, _, _, rfl, rfl, hn, (fun h => by cases h), fun h0 => ⟨g, 0, rfl, (Array.getElem?_eq_some_iff.1 hg).1, fun i x hx j u hu => ?_⟩⟩
    have h2 := cellsW_get hW hx hu
    have hlt := (List.getElem?_eq_some_iff.1 h2).1
    rw [cellsW_length hW] at hlt
    rw [show 0 + i * W + j = i * W + j by omega, cell_of_row w g (i * W + j) cur e (0, 0) hg, ← h2, ← ht, List.getElem?_take, if_pos hlt]
    simp
omit hW
/-- One element in a block of its own. -/
theorem RdW.one {b : Nat} {x : α} {cs : Array Value} {T : TypeId} (h : Blk w b cs T) (hr : ∀ (j : Nat) (u : Value), (row x)[j]? = some u → cs[j]? = some u) : RdW row W w (.slice (some ⟨b, 0, none⟩) 1 1) [x] :=
  ⟨_, _, _, rfl, rfl, Nat.le_refl _, (fun h => by cases h), fun _ => ⟨b, 0, rfl, h.lt, fun i z hz => by
    cases i with
    | zero =>
      simp at hz; subst hz
      intro j u hu
      rw [show 0 + 0 * W + j = j by omega]
      exact (h.cell j).trans (hr j u hu)
    | succ i => simp at hz⟩⟩
end
end

section
set_option linter.unusedVariables false
set_option linter.unusedSimpArgs false
open Go.RowKit

/-- A row of bytes in a block of its own. -/
def RowB (w : World) (base g n c : Nat) (L : List Int) : Prop := L.length = n ∧ w.ownsRow base 5 1 (.slice (some ⟨g, 0, none⟩) n c) n (L.map (.int .u8))
section
variable {w w' : World} {base g n c : Nat} {L : List Int}
theorem RowB.at (h : RowB w base g n c L) {i : Nat} {x : Int} (hx : L[i]? = some x) : w.cell? ⟨g, i, none⟩ = some (.int .u8 x) := by
  have hlt := (List.getElem?_eq_some_iff.1 hx).1
  rw [h.2.cellAt i (by have := h.1; omega), List.getElem?_map, hx]; rfl
theorem RowB.frozen (h : RowB w base g n c L) (i : Nat) : w.frozen? ⟨g, i, none⟩ = false := h.2.frozenAt i
theorem RowB.cap (h : RowB w base g n c L) : n ≤ c := by
  rcases h.2.2 with ⟨h1, h2⟩ | ⟨g', cp, cur, h1, -, -, h4, -⟩
  · cases h1
  · cases h1; exact h4
theorem RowB.lt (h : RowB w base g n c L) : base ≤ g ∧ g < w.heap.size := h.2.lt g rfl
theorem RowB.set (h : RowB w base g n c L) (i : Nat) (x : Int) : RowB (w.setCell ⟨g, i, none⟩ (.int .u8 x)) base g n c (L.set i x) :=
  ⟨by rw [List.length_set]; exact h.1, by rw [List.map_set]; exact (h.2.stored i _).1⟩
theorem RowB.keeps {S : List Nat} (h : RowB w base g n c L) (k : Keeps w w' S) (hn : g ∉ S) : RowB w' base g n c L := by
  refine ⟨h.1, ?_⟩
  obtain ⟨h1, h2⟩ := h.2
  refine ⟨h1, ?_⟩
  rcases h2 with h2 | ⟨g', cp, cur, e, hg, hb, r⟩
  · exact .inl h2
  · cases e
    exact .inr ⟨g, c, cur, rfl, hg, (k.block g (Array.getElem?_eq_some_iff.1 hb).1 hn).trans hb, r⟩
end
end

section
set_option linter.unusedVariables false
set_option linter.unusedSimpArgs false
set_option linter.unusedSectionVars false
open Go.RowKit
end

section
set_option linter.unusedVariables false
set_option linter.unusedSimpArgs false
end

section
set_option linter.unusedVariables false
set_option linter.unusedSimpArgs false
open Go.RowKit

/-- The iterator g (captured: lb) hands out what S says; Sp: a part of it. It changes nothing; the rounds leave the blocks X as they are; Fx: what holds ahead of each round. -/
def SeqZ {α : Type} (P : Program) (g : Nat) (lb : Array Value) (encs : α → Array Value) (X : List Nat) (Fx : World → Prop) (S Sp : List α → Prop) (w : World) : Prop :=
  ∀ (l : Nat) (J Jx : List α → World → Prop) (W : World), SameAt X w W →
    (∀ s A B, J s A → Keeps A B [] → J s B) → (∀ s A B, Jx s A → Keeps A B [] → Jx s B) →
    (∀ pre x W1, J pre W1 → Fx W1 → Sp (pre ++ [x]) → YieldAt Fence.wide 9 P l (encs x) W1 fun e W' => SameAt X W1 W' ∧
      ((e = .returned (.bool true) ∧ J (pre ++ [x]) W') ∨ (e = .returned (.bool false) ∧ Jx (pre ++ [x]) W'))) →
    J [] W →
    CallsIn Fence.wide 9 P g (#[.func (.yield l) #[] #[]] ++ lb) W fun e W' => (∃ v, e = .returned v) ∧ ((∃ xs, S xs ∧ J xs W') ∨ (∃ pre, Sp pre ∧ Jx pre W'))
end

section
set_option linter.unusedVariables false
set_option linter.unusedSimpArgs false
open Go.RowKit

attribute [local go_sem] Oper.semAt_some
end

section
set_option linter.unusedVariables false
set_option linter.unusedSimpArgs false
open Go.RowKit
end

section
set_option linter.unusedVariables false
set_option linter.unusedSimpArgs false
open Go.RowKit
end

section
set_option linter.unusedVariables false
set_option linter.unusedSimpArgs false
set_option linter.unusedSectionVars false
open Go.RowKit
end

section
set_option linter.unusedVariables false
set_option linter.unusedSimpArgs false
set_option linter.unusedSectionVars false
open Go.ChangeShapes Go.WideShapes Go.ChangeAt Go.RowKit Go.Joins

section
variable {H : Type} {enc : TypeId × Value → H} {P : Program} {w : World} {base : Nat} {spare : Nat → Bool} {held : Bool}

end
end

end Go.Proofs.YtcmagccfagijlaaGreat
