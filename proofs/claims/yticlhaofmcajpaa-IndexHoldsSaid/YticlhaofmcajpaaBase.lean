/-
  Words for memory, used by all walks of the seat: a block that holds just these cells; which of the old blocks a call may change. No program is in sight here.
-/
import Derived.WalkKit
import Derived.WalkSpells
import Derived.WalkLawsBesides
import Derived.Lib.Hide
import Derived.Defers
import Derived.Recover
import Derived.StillTailTactics
import Derived.Deep.QuietTactic
import Derived.BigQuiet
import Derived.Carry
namespace Go.Proofs.Yticlhaofmcajpaa
set_option linter.unusedVariables false
set_option linter.unusedSimpArgs false
set_option linter.unusedSectionVars false
open Go.RowKit

/-- What lies below a heap's size lies below a grown heap's size: as the walk asks it. -/
@[go_sem] theorem past_lt2 {a b : Nat} (h : a < b) : a < b + 1 + 1 := by omega
@[go_sem] theorem past_lt3 {a b : Nat} (h : a < b) : a < b + 1 + 1 + 1 := by omega
@[go_sem] theorem past_lt4 {a b : Nat} (h : a < b) : a < b + 1 + 1 + 1 + 1 := by omega
@[go_sem] theorem past_lt5 {a b : Nat} (h : a < b) : a < b + 1 + 1 + 1 + 1 + 1 := by omega
@[go_sem] theorem past_lt6 {a b : Nat} (h : a < b) : a < b + 1 + 1 + 1 + 1 + 1 + 1 := by omega
@[go_sem] theorem past_lt7 {a b : Nat} (h : a < b) : a < b + 1 + 1 + 1 + 1 + 1 + 1 + 1 := by omega
@[go_sem] theorem past_lt8 {a b : Nat} (h : a < b) : a < b + 1 + 1 + 1 + 1 + 1 + 1 + 1 + 1 := by omega
@[go_sem] theorem past_lt9 {a b : Nat} (h : a < b) : a < b + 1 + 1 + 1 + 1 + 1 + 1 + 1 + 1 + 1 := by omega
@[go_sem] theorem past_lt10 {a b : Nat} (h : a < b) : a < b + 1 + 1 + 1 + 1 + 1 + 1 + 1 + 1 + 1 + 1 := by omega
@[go_sem] theorem past_lt11 {a b : Nat} (h : a < b) : a < b + 1 + 1 + 1 + 1 + 1 + 1 + 1 + 1 + 1 + 1 + 1 := by omega
@[go_sem] theorem past_lt12 {a b : Nat} (h : a < b) : a < b + 1 + 1 + 1 + 1 + 1 + 1 + 1 + 1 + 1 + 1 + 1 + 1 := by omega
@[go_sem] theorem past_ne0 {a b : Nat} (h : a < b) : (a = b) = False := eq_false (by omega)
@[go_sem] theorem past_en0 {a b : Nat} (h : a < b) : (b = a) = False := eq_false (by omega)
@[go_sem] theorem past_ne1 {a b : Nat} (h : a < b) : (a = b + 1) = False := eq_false (by omega)
@[go_sem] theorem past_en1 {a b : Nat} (h : a < b) : (b + 1 = a) = False := eq_false (by omega)
@[go_sem] theorem past_ne2 {a b : Nat} (h : a < b) : (a = b + 1 + 1) = False := eq_false (by omega)
@[go_sem] theorem past_en2 {a b : Nat} (h : a < b) : (b + 1 + 1 = a) = False := eq_false (by omega)
@[go_sem] theorem past_ne3 {a b : Nat} (h : a < b) : (a = b + 1 + 1 + 1) = False := eq_false (by omega)
@[go_sem] theorem past_en3 {a b : Nat} (h : a < b) : (b + 1 + 1 + 1 = a) = False := eq_false (by omega)
@[go_sem] theorem past_ne4 {a b : Nat} (h : a < b) : (a = b + 1 + 1 + 1 + 1) = False := eq_false (by omega)
@[go_sem] theorem past_en4 {a b : Nat} (h : a < b) : (b + 1 + 1 + 1 + 1 = a) = False := eq_false (by omega)
@[go_sem] theorem past_ne5 {a b : Nat} (h : a < b) : (a = b + 1 + 1 + 1 + 1 + 1) = False := eq_false (by omega)
@[go_sem] theorem past_en5 {a b : Nat} (h : a < b) : (b + 1 + 1 + 1 + 1 + 1 = a) = False := eq_false (by omega)
@[go_sem] theorem past_ne6 {a b : Nat} (h : a < b) : (a = b + 1 + 1 + 1 + 1 + 1 + 1) = False := eq_false (by omega)
@[go_sem] theorem past_en6 {a b : Nat} (h : a < b) : (b + 1 + 1 + 1 + 1 + 1 + 1 = a) = False := eq_false (by omega)
@[go_sem] theorem past_ne7 {a b : Nat} (h : a < b) : (a = b + 1 + 1 + 1 + 1 + 1 + 1 + 1) = False := eq_false (by omega)
@[go_sem] theorem past_en7 {a b : Nat} (h : a < b) : (b + 1 + 1 + 1 + 1 + 1 + 1 + 1 = a) = False := eq_false (by omega)
@[go_sem] theorem past_ne8 {a b : Nat} (h : a < b) : (a = b + 1 + 1 + 1 + 1 + 1 + 1 + 1 + 1) = False := eq_false (by omega)
@[go_sem] theorem past_en8 {a b : Nat} (h : a < b) : (b + 1 + 1 + 1 + 1 + 1 + 1 + 1 + 1 = a) = False := eq_false (by omega)
@[go_sem] theorem past_ne9 {a b : Nat} (h : a < b) : (a = b + 1 + 1 + 1 + 1 + 1 + 1 + 1 + 1 + 1) = False := eq_false (by omega)
@[go_sem] theorem past_en9 {a b : Nat} (h : a < b) : (b + 1 + 1 + 1 + 1 + 1 + 1 + 1 + 1 + 1 = a) = False := eq_false (by omega)
@[go_sem] theorem past_ne10 {a b : Nat} (h : a < b) : (a = b + 1 + 1 + 1 + 1 + 1 + 1 + 1 + 1 + 1 + 1) = False := eq_false (by omega)
@[go_sem] theorem past_en10 {a b : Nat} (h : a < b) : (b + 1 + 1 + 1 + 1 + 1 + 1 + 1 + 1 + 1 + 1 = a) = False := eq_false (by omega)
@[go_sem] theorem past_ne11 {a b : Nat} (h : a < b) : (a = b + 1 + 1 + 1 + 1 + 1 + 1 + 1 + 1 + 1 + 1 + 1) = False := eq_false (by omega)
@[go_sem] theorem past_en11 {a b : Nat} (h : a < b) : (b + 1 + 1 + 1 + 1 + 1 + 1 + 1 + 1 + 1 + 1 + 1 = a) = False := eq_false (by omega)
@[go_sem] theorem past_ne12 {a b : Nat} (h : a < b) : (a = b + 1 + 1 + 1 + 1 + 1 + 1 + 1 + 1 + 1 + 1 + 1 + 1) = False := eq_false (by omega)
@[go_sem] theorem past_en12 {a b : Nat} (h : a < b) : (b + 1 + 1 + 1 + 1 + 1 + 1 + 1 + 1 + 1 + 1 + 1 + 1 = a) = False := eq_false (by omega)

/-- Block b holds the cells cs, none of them frozen. -/
def Blk (w : World) (b : Nat) (cs : Array Value) (T : TypeId) : Prop := w.heap[b]? = some (.cells cs T (0, 0))

/-- Of the old blocks only those of S may have changed. -/
structure Keeps (w w' : World) (S : List Nat) : Prop where
  os : w'.os = w.os
  tape : w'.tape = w.tape
  output : w'.output = w.output
  size : w.heap.size ≤ w'.heap.size
  block : ∀ k, k < w.heap.size → k ∉ S → w'.heap[k]? = w.heap[k]?

section
variable {w w' w'' : World} {S S' : List Nat} {b : Nat} {cs : Array Value} {T : TypeId}

theorem Keeps.refl (w : World) (S : List Nat) : Keeps w w S := ⟨rfl, rfl, rfl, Nat.le_refl _, fun _ _ _ => rfl⟩
theorem Keeps.trans (h : Keeps w w' S) (k : Keeps w' w'' S') (hs : ∀ x ∈ S', x < w.heap.size → x ∈ S) : Keeps w w'' S :=
  ⟨k.os.trans h.os, k.tape.trans h.tape, k.output.trans h.output, Nat.le_trans h.size k.size,
    fun x hx hn => (k.block x (Nat.lt_of_lt_of_le hx h.size) (fun hm => hn (hs x hm hx))).trans (h.block x hx hn)⟩
theorem Keeps.then (h : Keeps w w' S) (k : Keeps w' w'' []) : Keeps w w'' S := h.trans k (fun _ h => by cases h)
theorem Keeps.mono (h : Keeps w w' S) (hs : ∀ x ∈ S, x ∈ S') : Keeps w w' S' := ⟨h.os, h.tape, h.output, h.size, fun k hk hn => h.block k hk (fun hm => hn (hs k hm))⟩
theorem Keeps.alloc (h : Keeps w w' S) (o : Obj) : Keeps w (w'.alloc o) S :=
  ⟨h.os, h.tape, h.output, by have := h.size; simp; omega, fun k hk hn => by
    rw [Below.heap_alloc _ _ _ (Nat.lt_of_lt_of_le hk h.size)]; exact h.block k hk hn⟩
theorem Keeps.drew (h : Keeps w w' S) : Keeps w w'.drew S := ⟨h.os, h.tape, h.output, h.size, h.block⟩
theorem Keeps.drewN (h : Keeps w w' S) (n : Nat) : Keeps w (w'.drewN n) S := ⟨h.os, h.tape, h.output, h.size, h.block⟩
theorem Keeps.setCell (h : Keeps w w' S) {a : Addr} (ha : w.heap.size ≤ a.block ∨ a.block ∈ S) (v : Value) : Keeps w (w'.setCell a v) S :=
  ⟨h.os, h.tape, h.output, by have := h.size; simp; omega, fun k hk hn => by
    rw [Below.heap_setCell _ _ _ _ (by intro e; subst e; rcases ha with ha | ha; omega; exact hn ha)]; exact h.block k hk hn⟩
theorem Keeps.below (h : Keeps w w' []) : Below w.heap.size w w' := ⟨h.os, h.tape, h.output, h.size, fun k hk => h.block k hk (by simp)⟩
theorem Keeps.of_below (h : Below w.heap.size w w') : Keeps w w' [] := ⟨h.os, h.tape, h.output, h.size, fun k hk _ => h.block k hk⟩
theorem Keeps.of_grown {row : Option Nat} (h : w.grownBy w' row) (hs : ∀ k, row = some k → k ∈ S) : Keeps w w' S :=
  ⟨h.os, h.tape, h.output, h.size, fun k hk hn => h.block k hk (fun e => hn (hs k e.symm))⟩
theorem Keeps.cell (h : Keeps w w' S) {p : Addr} (hp : p.block < w.heap.size) (hn : p.block ∉ S) : w'.cell? p = w.cell? p := World.cell?_of_block (w := w) (h.block p.block hp hn)
theorem Keeps.frozen (h : Keeps w w' S) {p : Addr} (hp : p.block < w.heap.size) (hn : p.block ∉ S) : w'.frozen? p = w.frozen? p := World.frozen?_of_block (w := w) (h.block p.block hp hn)

theorem Blk.cell (h : Blk w b cs T) (i : Nat) : w.cell? ⟨b, i, none⟩ = cs[i]? := cell_of_row w b i cs T (0, 0) h
theorem Blk.frozen (h : Blk w b cs T) (i : Nat) : w.frozen? ⟨b, i, none⟩ = false := by
  have h' : w.heap[b]? = some (.cells cs T (0, 0)) := h
  simp [World.frozen?, h']
theorem Blk.lt (h : Blk w b cs T) : b < w.heap.size := (Array.getElem?_eq_some_iff.1 h).1
theorem Blk.keeps (h : Blk w b cs T) (k : Keeps w w' S) (hn : b ∉ S) : Blk w' b cs T := (k.block b h.lt hn).trans h
theorem Blk.alloc (h : Blk w b cs T) (o : Obj) : Blk (w.alloc o) b cs T := h.keeps ((Keeps.refl w []).alloc o) (by simp)
theorem Blk.drew (h : Blk w b cs T) : Blk w.drew b cs T := h
theorem Blk.drewN (h : Blk w b cs T) (n : Nat) : Blk (w.drewN n) b cs T := h
theorem Blk.new (w : World) (cs : Array Value) (T : TypeId) : Blk (w.alloc (.cells cs T)) w.heap.size cs T := heap_alloc_new w _
theorem Blk.set (h : Blk w b cs T) (i : Nat) (v : Value) : Blk (w.setCell ⟨b, i, none⟩ v) b (cs.setIfInBounds i v) T := by
  have h' : w.heap[b]? = some (.cells cs T (0, 0)) := h
  unfold Blk World.setCell
  simp [Array.getElem?_modify, h']
theorem Blk.setOther (h : Blk w b cs T) {a : Addr} (hn : a.block ≠ b) (v : Value) : Blk (w.setCell a v) b cs T := by
  have h' : w.heap[b]? = some (.cells cs T (0, 0)) := h
  unfold Blk
  rw [Below.heap_setCell _ _ _ _ (fun e => hn e.symm)]
  exact h'
theorem Blk.ne_new (h : Blk w b cs T) : b ≠ w.heap.size := Nat.ne_of_lt h.lt
end

/-- What a block holds behind a store, a new block, a draw: for simp. -/
theorem heap_setCell_at (w : World) (a : Addr) (v : Value) (k : Nat) : (w.setCell a v).heap[k]? = if a.block = k then (w.heap[k]?).map (fun
    | .cells c elem frozen => .cells (if a.spot.isSome then c else c.setIfInBounds a.off v) elem frozen
    | o => o) else w.heap[k]? := by
  simp only [World.setCell, Array.getElem?_modify]
  split <;> rfl
theorem heap_drew_at (w : World) : w.drew.heap = w.heap := rfl
theorem heap_alloc_at (w : World) (o : Obj) (k : Nat) : (w.alloc o).heap[k]? = if k = w.heap.size then some o else w.heap[k]? := by
  show (w.heap.push o)[k]? = _
  rw [Array.getElem?_push]
theorem Keeps.setCell' {w w' : World} {S : List Nat} {a : Addr} {v : Value} (ha : w.heap.size ≤ a.block ∨ a.block ∈ S) (h : Keeps w w' S) : Keeps w (w'.setCell a v) S := h.setCell ha v

/-- The first three cells of a block, as the walk takes them. -/
theorem Blk.three {w : World} {b : Nat} {x y z : Value} {T : TypeId} (h : Blk w b #[x, y, z] T) :
    w.cell? ⟨b, 0, none⟩ = some x ∧ w.cell? ⟨b, 1, none⟩ = some y ∧ w.cell? ⟨b, 2, none⟩ = some z ∧
    w.frozen? ⟨b, 0, none⟩ = false ∧ w.frozen? ⟨b, 1, none⟩ = false ∧ w.frozen? ⟨b, 2, none⟩ = false :=
  ⟨h.cell 0, h.cell 1, h.cell 2, h.frozen 0, h.frozen 1, h.frozen 2⟩
theorem Blk.one {w : World} {b : Nat} {x : Value} {T : TypeId} (h : Blk w b #[x] T) : w.cell? ⟨b, 0, none⟩ = some x ∧ w.frozen? ⟨b, 0, none⟩ = false := ⟨h.cell 0, h.frozen 0⟩

theorem ret_int {k : IntKind} {a b : Int} (h : a = b) : Ending.returned (.int k a) = .returned (.int k b) := by rw [h]
theorem ret_bool {a b : Bool} (h : a = b) : Ending.returned (.bool a) = .returned (.bool b) := by rw [h]

end Go.Proofs.Yticlhaofmcajpaa
