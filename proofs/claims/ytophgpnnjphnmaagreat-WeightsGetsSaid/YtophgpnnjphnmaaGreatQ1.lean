/-
  The places of a table's states in plain words. (No program in sight.)
  Words for memory, used by all walks of the seat: a block that holds just these cells; which of the old blocks a call may change. No program is in sight here.
  The step from a walk to a law's row, once for all laws of the seat: whoever shows that the call returns true and changes nothing that lay in memory before, has the row's contract.
  Slices of numbers in memory: what a slice value reads as; what keeps it; how an argument opens. No program is in sight here.
  Maps from numbers to numbers in memory: what a map block holds as a function of keys; the runs of the operations on it.
  The plain mathematics of package tally: what its functions compute of a list of numbers. No program is in sight here.
  Valid tables in plain words; walks over package norm: Check.
  The places of a table's states in plain words: what is laid step by step. (No walk is done here.)
  Maps from numbers to numbers whose number of entries is known. (No walk is done here.)
-/
import Derived.ProofKit
import Derived.WalkKit
import Derived.WalkSpells
import Derived.WalkLawsBesides
import Derived.Lib.Hide
import Derived.Defers
import Derived.Recover
import Derived.StillTailTactics
import Derived.Deep.QuietTactic
import Derived.BigQuiet
import Derived.Carry
import Derived.Test.YtophgpnnjphnmaaGreatRows
import Derived.Deep.Slices
import Derived.OpenShut
import Derived.OwnWalk
import Derived.Laws.AppendOwnNone
import Derived.Maps.Own
import Derived.Maps.OwnOps
import Derived.Maps.OwnSet
import Derived.DeepKeys4
import Derived.WideKeyEntry
import Derived.RowKit
namespace Go.Proofs.YtophgpnnjphnmaaGreat
section
/-- The step between visited places. -/
def stepN (s : Nat) : Nat := if s < 16 then 1 else s / 2 + s / 8 + 3
/-- The k-th visited place. -/
def visitN (s k : Nat) : Nat := k * stepN s % s

theorem visit_ok : ∀ g ∈ List.range 10, ((List.range (2 ^ g)).map (visitN (2 ^ g))).Nodup ∧ ∀ p ∈ List.range (2 ^ g), p ∈ (List.range (2 ^ g)).map (visitN (2 ^ g)) := by decide +kernel
theorem visit_nodup {g : Nat} (h : g ≤ 9) : ((List.range (2 ^ g)).map (visitN (2 ^ g))).Nodup := (visit_ok g (List.mem_range.2 (by omega))).1
theorem visit_all {g p : Nat} (h : g ≤ 9) (hp : p < 2 ^ g) : ∃ k, k < 2 ^ g ∧ visitN (2 ^ g) k = p := by
  obtain ⟨k, h1, h2⟩ := List.mem_map.1 ((visit_ok g (List.mem_range.2 (by omega))).2 p (List.mem_range.2 hp))
  exact ⟨k, List.mem_range.1 h1, h2⟩
theorem visit_inj {g i j : Nat} (h : g ≤ 9) (hi : i < 2 ^ g) (hj : j < 2 ^ g) (he : visitN (2 ^ g) i = visitN (2 ^ g) j) : i = j := by
  have hp := List.pairwise_iff_getElem.1 (List.pairwise_map.1 (visit_nodup h))
  rcases Nat.lt_trichotomy i j with h1 | h1 | h1
  · have := hp i j (by simpa using hi) (by simpa using hj) h1
    simp only [List.getElem_range] at this
    exact (this he).elim
  · exact h1
  · have := hp j i (by simpa using hj) (by simpa using hi) h1
    simp only [List.getElem_range] at this
    exact (this he.symm).elim
theorem visit_lt {s k : Nat} (h : 0 < s) : visitN s k < s := Nat.mod_lt _ h
/-- One step on. -/
theorem visit_succ {s k : Nat} : visitN s (k + 1) = (visitN s k + stepN s) % s := by
  unfold visitN
  rw [Nat.mod_add_mod, Nat.succ_mul]

/-- The free places among the first k visits. -/
def freeN (s top k : Nat) : List Nat := ((List.range k).map (visitN s)).filter (fun p => decide (p < top))
theorem free_succ_yes {s top k : Nat} (h : visitN s k < top) : freeN s top (k + 1) = freeN s top k ++ [visitN s k] := by
  simp [freeN, List.range_succ, List.filter_append, h]
theorem free_succ_no {s top k : Nat} (h : ¬ visitN s k < top) : freeN s top (k + 1) = freeN s top k := by
  simp [freeN, List.range_succ, List.filter_append, h]

theorem visit_perm {g : Nat} (h : g ≤ 9) : ((List.range (2 ^ g)).map (visitN (2 ^ g))).Perm (List.range (2 ^ g)) :=
  (List.perm_ext_iff_of_nodup (visit_nodup h) List.nodup_range).2 fun p => by
    constructor
    · intro hp
      obtain ⟨k, -, rfl⟩ := List.mem_map.1 hp
      exact List.mem_range.2 (visit_lt (Nat.two_pow_pos g))
    · intro hp
      exact (visit_ok g (List.mem_range.2 (by omega))).2 p hp
theorem range_filter_lt (n top : Nat) (h : top ≤ n) : ((List.range n).filter (fun p => decide (p < top))).length = top := by
  induction n with
  | zero => simp; omega
  | succ n ih =>
    rw [List.range_succ, List.filter_append, List.length_append]
    by_cases h1 : top ≤ n
    · rw [ih h1]
      simp
      omega
    · have h2 : top = n + 1 := by omega
      subst h2
      rw [List.filter_eq_self.2 (fun a ha => by have := List.mem_range.1 ha; simp; omega)]
      simp
/-- As many places are free as lie below top. -/
theorem free_len {g top : Nat} (h : g ≤ 9) (ht : top ≤ 2 ^ g) : (freeN (2 ^ g) top (2 ^ g)).length = top := by
  unfold freeN
  rw [((visit_perm h).filter _).length_eq]
  exact range_filter_lt _ _ ht

/-- The symbols of norm -1, in order. -/
def lowsL (norm : List Int) : List Nat := (List.range norm.length).filter (fun s => norm.getD s 0 == -1)
/-- The symbols of greater norms, each as often as it has states. -/
def othersL (norm : List Int) : List Nat := (List.range norm.length).flatMap fun s => List.replicate (norm.getD s 0).toNat s
/-- The symbol of place p. -/
def placeN (g : Nat) (norm : List Int) (p : Nat) : Nat :=
  if 2 ^ g - (lowsL norm).length ≤ p then (lowsL norm).getD (2 ^ g - 1 - p) 0
  else (othersL norm).getD ((freeN (2 ^ g) (2 ^ g - (lowsL norm).length) (2 ^ g)).idxOf p) 0
/-- All places' symbols. -/
def placesL (g : Nat) (norm : List Int) : List Nat := (List.range (2 ^ g)).map (placeN g norm)
end

section
set_option linter.unusedVariables false
set_option linter.unusedSimpArgs false
set_option linter.unusedSectionVars false
open Go.RowKit

/-- What lies below a heap's size lies below a grown heap's size: as the walk asks it. -/
@[go_sem] theorem past_lt2 {a b : Nat} (h : a < b) : a < b + 1 + 1 := by omega
@[go_sem] theorem past_lt3 {a b : Nat} (h : a < b) : a < b + 1 + 1 + 1 := by omega
@[go_sem] theorem past_lt4 {a b : Nat} (h : a < b) : a < b + 1 + 1 + 1 + 1 := by omega
@[go_sem] theorem past_lt5 {a b : Nat} (h : a < b) : a < b + 1 + 1 + 1 + 1 + 1 := by omega
@[go_sem] theorem past_lt6 {a b : Nat} (h : a < b) : a < b + 1 + 1 + 1 + 1 + 1 + 1 := by omega
@[go_sem] theorem past_lt7 {a b : Nat} (h : a < b) : a < b + 1 + 1 + 1 + 1 + 1 + 1 + 1 := by omega
@[go_sem] theorem past_lt8 {a b : Nat} (h : a < b) : a < b + 1 + 1 + 1 + 1 + 1 + 1 + 1 + 1 := by omega
@[go_sem] theorem past_lt9 {a b : Nat} (h : a < b) : a < b + 1 + 1 + 1 + 1 + 1 + 1 + 1 + 1 + 1 := by omega
@[go_sem] theorem past_lt10 {a b : Nat} (h : a < b) : a < b + 1 + 1 + 1 + 1 + 1 + 1 + 1 + 1 + 1 + 1 := by omega
@[go_sem] theorem past_lt11 {a b : Nat} (h : a < b) : a < b + 1 + 1 + 1 + 1 + 1 + 1 + 1 + 1 + 1 + 1 + 1 := by omega
@[go_sem] theorem past_lt12 {a b : Nat} (h : a < b) : a < b + 1 + 1 + 1 + 1 + 1 + 1 + 1 + 1 + 1 + 1 + 1 + 1 := by omega
@[go_sem] theorem past_ne0 {a b : Nat} (h : a < b) : (a = b) = False := eq_false (by omega)
@[go_sem] theorem past_en0 {a b : Nat} (h : a < b) : (b = a) = False := eq_false (by omega)
@[go_sem] theorem past_ne1 {a b : Nat} (h : a < b) : (a = b + 1) = False := eq_false (by omega)
@[go_sem] theorem past_en1 {a b : Nat} (h : a < b) : (b + 1 = a) = False := eq_false (by omega)
@[go_sem] theorem past_ne2 {a b : Nat} (h : a < b) : (a = b + 1 + 1) = False := eq_false (by omega)
@[go_sem] theorem past_en2 {a b : Nat} (h : a < b) : (b + 1 + 1 = a) = False := eq_false (by omega)
@[go_sem] theorem past_ne3 {a b : Nat} (h : a < b) : (a = b + 1 + 1 + 1) = False := eq_false (by omega)
@[go_sem] theorem past_en3 {a b : Nat} (h : a < b) : (b + 1 + 1 + 1 = a) = False := eq_false (by omega)
@[go_sem] theorem past_ne4 {a b : Nat} (h : a < b) : (a = b + 1 + 1 + 1 + 1) = False := eq_false (by omega)
@[go_sem] theorem past_en4 {a b : Nat} (h : a < b) : (b + 1 + 1 + 1 + 1 = a) = False := eq_false (by omega)
@[go_sem] theorem past_ne5 {a b : Nat} (h : a < b) : (a = b + 1 + 1 + 1 + 1 + 1) = False := eq_false (by omega)
@[go_sem] theorem past_en5 {a b : Nat} (h : a < b) : (b + 1 + 1 + 1 + 1 + 1 = a) = False := eq_false (by omega)
@[go_sem] theorem past_ne6 {a b : Nat} (h : a < b) : (a = b + 1 + 1 + 1 + 1 + 1 + 1) = False := eq_false (by omega)
@[go_sem] theorem past_en6 {a b : Nat} (h : a < b) : (b + 1 + 1 + 1 + 1 + 1 + 1 = a) = False := eq_false (by omega)
@[go_sem] theorem past_ne7 {a b : Nat} (h : a < b) : (a = b + 1 + 1 + 1 + 1 + 1 + 1 + 1) = False := eq_false (by omega)
@[go_sem] theorem past_en7 {a b : Nat} (h : a < b) : (b + 1 + 1 + 1 + 1 + 1 + 1 + 1 = a) = False := eq_false (by omega)
@[go_sem] theorem past_ne8 {a b : Nat} (h : a < b) : (a = b + 1 + 1 + 1 + 1 + 1 + 1 + 1 + 1) = False := eq_false (by omega)
@[go_sem] theorem past_en8 {a b : Nat} (h : a < b) : (b + 1 + 1 + 1 + 1 + 1 + 1 + 1 + 1 = a) = False := eq_false (by omega)
@[go_sem] theorem past_ne9 {a b : Nat} (h : a < b) : (a = b + 1 + 1 + 1 + 1 + 1 + 1 + 1 + 1 + 1) = False := eq_false (by omega)
@[go_sem] theorem past_en9 {a b : Nat} (h : a < b) : (b + 1 + 1 + 1 + 1 + 1 + 1 + 1 + 1 + 1 = a) = False := eq_false (by omega)
@[go_sem] theorem past_ne10 {a b : Nat} (h : a < b) : (a = b + 1 + 1 + 1 + 1 + 1 + 1 + 1 + 1 + 1 + 1) = False := eq_false (by omega)
@[go_sem] theorem past_en10 {a b : Nat} (h : a < b) : (b + 1 + 1 + 1 + 1 + 1 + 1 + 1 + 1 + 1 + 1 = a) = False := eq_false (by omega)
@[go_sem] theorem past_ne11 {a b : Nat} (h : a < b) : (a = b + 1 + 1 + 1 + 1 + 1 + 1 + 1 + 1 + 1 + 1 + 1) = False := eq_false (by omega)
@[go_sem] theorem past_en11 {a b : Nat} (h : a < b) : (b + 1 + 1 + 1 + 1 + 1 + 1 + 1 + 1 + 1 + 1 + 1 = a) = False := eq_false (by omega)
@[go_sem] theorem past_ne12 {a b : Nat} (h : a < b) : (a = b + 1 + 1 + 1 + 1 + 1 + 1 + 1 + 1 + 1 + 1 + 1 + 1) = False := eq_false (by omega)
@[go_sem] theorem past_en12 {a b : Nat} (h : a < b) : (b + 1 + 1 + 1 + 1 + 1 + 1 + 1 + 1 + 1 + 1 + 1 + 1 = a) = False := eq_false (by omega)

/-- Block b holds the cells cs, none of them frozen. -/
def Blk (w : World) (b : Nat) (cs : Array Value) (T : TypeId) : Prop := w.heap[b]? = some (.cells cs T (0, 0))

/-- Of the old blocks only those of S may have changed. -/
structure Keeps (w w' : World) (S : List Nat) : Prop where
  os : w'.os = w.os
  tape : w'.tape = w.tape
  output : w'.output = w.output
  size : w.heap.size ≤ w'.heap.size
  block : ∀ k, k < w.heap.size → k ∉ S → w'.heap[k]? = w.heap[k]?

section
variable {w w' w'' : World} {S S' : List Nat} {b : Nat} {cs : Array Value} {T : TypeId}

theorem Keeps.refl (w : World) (S : List Nat) : Keeps w w S := ⟨rfl, rfl, rfl, Nat.le_refl _, fun _ _ _ => rfl⟩
theorem Keeps.trans (h : Keeps w w' S) (k : Keeps w' w'' S') (hs : ∀ x ∈ S', x < w.heap.size → x ∈ S) : Keeps w w'' S :=
  ⟨k.os.trans h.os, k.tape.trans h.tape, k.output.trans h.output, Nat.le_trans h.size k.size,
    fun x hx hn => (k.block x (Nat.lt_of_lt_of_le hx h.size) (fun hm => hn (hs x hm hx))).trans (h.block x hx hn)⟩
theorem Keeps.then (h : Keeps w w' S) (k : Keeps w' w'' []) : Keeps w w'' S := h.trans k (fun _ h => by cases h)
theorem Keeps.mono (h : Keeps w w' S) (hs : ∀ x ∈ S, x ∈ S') : Keeps w w' S' := ⟨h.os, h.tape, h.output, h.size, fun k hk hn => h.block k hk (fun hm => hn (hs k hm))⟩
theorem Keeps.alloc (h : Keeps w w' S) (o : Obj) : Keeps w (w'.alloc o) S :=
  ⟨h.os, h.tape, h.output, by have := h.size; simp; omega, fun k hk hn => by
    rw [Below.heap_alloc _ _ _ (Nat.lt_of_lt_of_le hk h.size)]; exact h.block k hk hn⟩
theorem Keeps.drew (h : Keeps w w' S) : Keeps w w'.drew S := ⟨h.os, h.tape, h.output, h.size, h.block⟩
theorem Keeps.drewN (h : Keeps w w' S) (n : Nat) : Keeps w (w'.drewN n) S := ⟨h.os, h.tape, h.output, h.size, h.block⟩
theorem Keeps.setCell (h : Keeps w w' S) {a : Addr} (ha : w.heap.size ≤ a.block ∨ a.block ∈ S) (v : Value) : Keeps w (w'.setCell a v) S :=
  ⟨h.os, h.tape, h.output, by have := h.size; simp; omega, fun k hk hn => by
    rw [Below.heap_setCell _ _ _ _ (by intro e; subst e; rcases ha with ha | ha; omega; exact hn ha)]; exact h.block k hk hn⟩
theorem Keeps.below (h : Keeps w w' []) : Below w.heap.size w w' := ⟨h.os, h.tape, h.output, h.size, fun k hk => h.block k hk (by simp)⟩
theorem Keeps.of_below (h : Below w.heap.size w w') : Keeps w w' [] := ⟨h.os, h.tape, h.output, h.size, fun k hk _ => h.block k hk⟩
theorem Keeps.of_grown {row : Option Nat} (h : w.grownBy w' row) (hs : ∀ k, row = some k → k ∈ S) : Keeps w w' S :=
  ⟨h.os, h.tape, h.output, h.size, fun k hk hn => h.block k hk (fun e => hn (hs k e.symm))⟩
theorem Keeps.cell (h : Keeps w w' S) {p : Addr} (hp : p.block < w.heap.size) (hn : p.block ∉ S) : w'.cell? p = w.cell? p := World.cell?_of_block (w := w) (h.block p.block hp hn)
theorem Keeps.frozen (h : Keeps w w' S) {p : Addr} (hp : p.block < w.heap.size) (hn : p.block ∉ S) : w'.frozen? p = w.frozen? p := World.frozen?_of_block (w := w) (h.block p.block hp hn)

theorem Blk.cell (h : Blk w b cs T) (i : Nat) : w.cell? ⟨b, i, none⟩ = cs[i]? := cell_of_row w b i cs T (0, 0) h
theorem Blk.frozen (h : Blk w b cs T) (i : Nat) : w.frozen? ⟨b, i, none⟩ = false := by
  have h' : w.heap[b]? = some (.cells cs T (0, 0)) := h
  simp [World.frozen?, h']
theorem Blk.lt (h : Blk w b cs T) : b < w.heap.size := (Array.getElem?_eq_some_iff.1 h).1
theorem Blk.keeps (h : Blk w b cs T) (k : Keeps w w' S) (hn : b ∉ S) : Blk w' b cs T := (k.block b h.lt hn).trans h
theorem Blk.alloc (h : Blk w b cs T) (o : Obj) : Blk (w.alloc o) b cs T := h.keeps ((Keeps.refl w []).alloc o) (by simp)
theorem Blk.drew (h : Blk w b cs T) : Blk w.drew b cs T := h
theorem Blk.drewN (h : Blk w b cs T) (n : Nat) : Blk (w.drewN n) b cs T := h
theorem Blk.new (w : World) (cs : Array Value) (T : TypeId) : Blk (w.alloc (.cells cs T)) w.heap.size cs T := heap_alloc_new w _
theorem Blk.set (h : Blk w b cs T) (i : Nat) (v : Value) : Blk (w.setCell ⟨b, i, none⟩ v) b (cs.setIfInBounds i v) T := by
  have h' : w.heap[b]? = some (.cells cs T (0, 0)) := h
  unfold Blk World.setCell
  simp [Array.getElem?_modify, h']
theorem Blk.setOther (h : Blk w b cs T) {a : Addr} (hn : a.block ≠ b) (v : Value) : Blk (w.setCell a v) b cs T := by
  have h' : w.heap[b]? = some (.cells cs T (0, 0)) := h
  unfold Blk
  rw [Below.heap_setCell _ _ _ _ (fun e => hn e.symm)]
  exact h'
theorem Blk.ne_new (h : Blk w b cs T) : b ≠ w.heap.size := Nat.ne_of_lt h.lt
end

/-- What a block holds behind a store, a new block, a draw: for simp. -/
theorem heap_setCell_at (w : World) (a : Addr) (v : Value) (k : Nat) : (w.setCell a v).heap[k]? = if a.block = k then (w.heap[k]?).map (fun
    | .cells c elem frozen => .cells (if a.spot.isSome then c else c.setIfInBounds a.off v) elem frozen
    | o => o) else w.heap[k]? := by
  simp only [World.setCell, Array.getElem?_modify]
  split <;> rfl
theorem heap_drew_at (w : World) : w.drew.heap = w.heap := rfl
theorem heap_alloc_at (w : World) (o : Obj) (k : Nat) : (w.alloc o).heap[k]? = if k = w.heap.size then some o else w.heap[k]? := by
  show (w.heap.push o)[k]? = _
  rw [Array.getElem?_push]
theorem Keeps.setCell' {w w' : World} {S : List Nat} {a : Addr} {v : Value} (ha : w.heap.size ≤ a.block ∨ a.block ∈ S) (h : Keeps w w' S) : Keeps w (w'.setCell a v) S := h.setCell ha v

/-- The first three cells of a block, as the walk takes them. -/
theorem Blk.three {w : World} {b : Nat} {x y z : Value} {T : TypeId} (h : Blk w b #[x, y, z] T) :
    w.cell? ⟨b, 0, none⟩ = some x ∧ w.cell? ⟨b, 1, none⟩ = some y ∧ w.cell? ⟨b, 2, none⟩ = some z ∧
    w.frozen? ⟨b, 0, none⟩ = false ∧ w.frozen? ⟨b, 1, none⟩ = false ∧ w.frozen? ⟨b, 2, none⟩ = false :=
  ⟨h.cell 0, h.cell 1, h.cell 2, h.frozen 0, h.frozen 1, h.frozen 2⟩
theorem Blk.one {w : World} {b : Nat} {x : Value} {T : TypeId} (h : Blk w b #[x] T) : w.cell? ⟨b, 0, none⟩ = some x ∧ w.frozen? ⟨b, 0, none⟩ = false := ⟨h.cell 0, h.frozen 0⟩

theorem ret_int {k : IntKind} {a b : Int} (h : a = b) : Ending.returned (.int k a) = .returned (.int k b) := by rw [h]
theorem ret_bool {a b : Bool} (h : a = b) : Ending.returned (.bool a) = .returned (.bool b) := by rw [h]
end

section
set_option linter.unusedVariables false
set_option linter.unusedSimpArgs false
set_option linter.unusedSectionVars false
open Go.ChangeShapes Go.WideShapes Go.ChangeAt Go.RowKit

theorem Tryz.own : ownKnob Tryz.prog.godebug = none := by kernel_rfl
theorem Tryz.laidOut : laidOutB Tryz.prog = true := by kernel_rfl

theorem trodAll_grown {H : Type} {enc : TypeId × Value → H} {P : Program} (hl : laidOutB P = true) {W W' : World} (hb : Below W.heap.size W W') (sp : Nat → Bool) :
    ∀ {ts : List TypeId} {vs : List Value} {ds : List (DataW H)} {ps : List MemPlace}, (∀ t ∈ ts, P.readableRec t = true ∧ t < P.types.size) →
      DataW.TrodAll enc P W 0 (fun _ => true) true ts vs ds ps → (∀ x ∈ ps, x.block < W.heap.size) → (∀ x ∈ ps, sp x.block = true) → DataW.TrodAll enc P W' 0 sp true ts vs ds ps
  | [], [], [], _, _, h, _, _ => h
  | t :: ts, v :: vs, d :: ds, ps, ht, h, hlt, hs => by
    obtain ⟨p, q, h1, h2, rfl⟩ := h
    refine ⟨p, q, ?_, ?_, rfl⟩
    · exact WideElems.Trod_stays hl (ht t (by simp)).1 (ht t (by simp)).2 h1 (fun x hx => hb.same (hlt x (by simp [hx]))) (fun x hx => hs x (by simp [hx]))
    · exact trodAll_grown hl hb sp (fun t' h' => ht t' (by simp [h'])) h2 (fun x hx => hlt x (by simp [hx])) (fun x hx => hs x (by simp [hx]))
  | [], [], _ :: _, _, _, h, _, _ => by cases h
  | [], _ :: _, _, _, _, h, _, _ => by cases h
  | _ :: _, [], _, _, _, h, _, _ => by cases h
  | _ :: _, _ :: _, [], _, _, h, _, _ => by cases h

theorem trodAll_count {H : Type} {enc : TypeId × Value → H} {P : Program} {W : World} {sp : Nat → Bool} :
    ∀ {ts : List TypeId} {vs : List Value} {ds : List (DataW H)} {ps : List MemPlace}, DataW.TrodAll enc P W 0 sp true ts vs ds ps → ds.length = ts.length
  | [], [], [], _, _ => rfl
  | t :: ts, v :: vs, d :: ds, ps, h => by obtain ⟨p, q, _, h2, _⟩ := h; simp [trodAll_count h2]
  | [], [], _ :: _, _, h => by cases h
  | [], _ :: _, _, _, h => by cases h
  | _ :: _, [], _, _, h => by cases h
  | _ :: _, _ :: _, [], _, h => by cases h

/-- What a law's walk shows. -/
def LawEnd (W : World) (e : Ending) (W' : World) : Prop := e = .returned (.bool true) ∧ Below W.heap.size W W'

theorem law_post {H : Type} {enc : TypeId × Value → H} {P : Program} {fn : Func} {s : ChangeSpec} (hl : laidOutB P = true) (hv : s.vars = [])
    (hs : ∀ ds : List (DataW H), ds.length = fn.params.toList.length → s.fn H ds = { results := [.lit (.bool true)], args := ds })
    (hr : ∀ t ∈ fn.params.toList, P.readableRec t = true ∧ t < P.types.size) {tb : TypeId} (hres : fn.resultTypes = #[tb]) (hb : P.underlying tb = some .bool)
    {W W' : World} {args : Array Value} {ds gs : List (DataW H)} {before : List MemPlace} (hW : DataW.Whole enc P fn.params.toList s.vars false W args.toList ds gs before)
    (hB : Below W.heap.size W W') : s.post enc P fn false true false false W args (.bool true) W' := by
  have hlt := hW.lt
  have hW0 := hW
  obtain ⟨p, q, hA, hV, rfl, hz, hn⟩ := hW
  rw [hv] at hV
  have hg : gs = [] ∧ q = [] := by
    cases gs with
    | nil => exact ⟨rfl, hV⟩
    | cons a b => cases hV
  obtain ⟨rfl, rfl⟩ := hg
  have e1 : s.fn H (ds ++ []) = { results := [.lit (.bool true)], args := ds } := by rw [List.append_nil]; exact hs ds (trodAll_count hA)
  refine ⟨ds, [], p ++ [], [], p, [], hW0, ?_, ?_, ?_, ?_, fun h => by cases h⟩
  · rw [e1, hres]
    exact trodAll_mk1 (shut_bool hb _)
  · rw [e1]
    exact trodAll_grown hl hB _ hr hA (fun x hx => hlt x (by simp [hx])) (fun x hx => by simpa using hlt x (by simp [hx]))
  · rw [e1, hv]
    exact rfl
  · exact hB.frame _

theorem law_contract {H : Type} {enc : TypeId × Value → H} {C : Checked} {f : FuncId} {fn : Func} {s : ChangeSpec} {conds : List PathCond} {a : Assume} (hl : laidOutB C.prog = true) (hv : s.vars = [])
    (hs : ∀ ds : List (DataW H), ds.length = fn.params.toList.length → s.fn H ds = { results := [.lit (.bool true)], args := ds })
    (hr : ∀ t ∈ fn.params.toList, C.prog.readableRec t = true ∧ t < C.prog.types.size) {tb : TypeId} (hres : fn.resultTypes = #[tb]) (hb : C.prog.underlying tb = some .bool)
    (walk : ∀ (W : World) (base : Nat) (args : Array Value) (ds : List (DataW H)) (ps : List MemPlace),
      (∀ (j : Nat) t v, fn.params[j]? = some t → args[j]? = some v → Value.okWide C.prog W .any base t v) →
      DataW.TrodAll enc C.prog W 0 (fun _ => true) true fn.params.toList args.toList ds ps → (∀ x ∈ ps, x.block < W.heap.size) → W.noneFrozen ps →
      Calls C.prog f args W (LawEnd W)) :
    ∀ (W : World) (base : Nat) (args : Array Value) (ds gs : List (DataW H)) (before : List MemPlace),
      (∀ (j : Nat) t v, fn.params[j]? = some t → args[j]? = some v → Value.okWide C.prog W .any base t v) →
      DataW.Whole enc C.prog fn.params.toList s.vars false W args.toList ds gs before →
      conds.all (PathCond.test C.prog ⟨fn.params.toList, ds, s.plain.varTypes C.prog, gs⟩) = true →
      a.holds C.prog (lone (Frame.enter C.prog f args .normal) [] W) →
      Calls C.prog f args W fun e W' => ∃ v, e = .returned v ∧ s.post enc C.prog fn false true false false W args v W' := by
  intro W base args ds gs before hval hW _ _
  have hlt := hW.lt
  have hW0 := hW
  obtain ⟨p, q, hA, hV, rfl, hz, hn⟩ := hW
  refine (walk W base args ds p hval hA (fun x hx => hlt x (by simp [hx])) (fun b o h => hz b o (by simp [h]))).mono fun e W' h => ?_
  exact ⟨_, h.1, law_post hl hv hs hr hres hb hW0 h.2⟩
end

section
set_option linter.unusedVariables false
set_option linter.unusedSimpArgs false
set_option linter.unusedSectionVars false
open Go.ChangeShapes Go.WideShapes Go.ChangeAt Go.RowKit

/-- A slice value reads as a list of numbers of kind k. -/
structure RdI (k : IntKind) (w : World) (v : Value) (l : List Int) : Prop where
  form : ∃ a n cp, v = .slice a n cp ∧ n = l.length ∧ (a = none → n = 0 ∧ cp = 0) ∧ (0 < n → n ≤ cp ∧ ∃ b o, a = some ⟨b, o, none⟩ ∧ b < w.heap.size ∧ ∀ i x, l[i]? = some x → w.cell? ⟨b, o + i, none⟩ = some (.int k x))

section
variable {k : IntKind} {w w' : World} {v : Value} {l : List Int} {a : Option Addr} {n cp : Nat}

theorem RdI.nil : RdI k w (.slice none 0 0) [] := ⟨_, _, _, rfl, rfl, fun _ => ⟨rfl, rfl⟩, fun h => absurd h (by omega)⟩
theorem RdI.zero (a : Addr) (c : Nat) : RdI k w (.slice (some a) 0 c) [] := ⟨_, _, _, rfl, rfl, (fun h => by cases h), fun h => absurd h (by omega)⟩
theorem RdI.keeps (h : RdI k w v l) (kk : Keeps w w' []) : RdI k w' v l := by
  obtain ⟨a, n, cp, rfl, hn, h0, hc⟩ := h.form
  refine ⟨a, n, cp, rfl, hn, h0, fun hp => ?_⟩
  obtain ⟨h1, b, o, h2, h3, h4⟩ := hc hp
  exact ⟨h1, b, o, h2, Nat.lt_of_lt_of_le h3 kk.size, fun i x hx => (kk.cell h3 (by simp)).trans (h4 i x hx)⟩
theorem RdI.keepsS {S : List Nat} (h : RdI k w v l) (kk : Keeps w w' S) (hn : ∀ ad n cp, v = .slice (some ad) n cp → 0 < n → ad.block ∉ S) : RdI k w' v l := by
  obtain ⟨a, n, cp, rfl, hl, h0, hc⟩ := h.form
  refine ⟨a, n, cp, rfl, hl, h0, fun hp => ?_⟩
  obtain ⟨h1, b, o, rfl, h3, h4⟩ := hc hp
  exact ⟨h1, b, o, rfl, Nat.lt_of_lt_of_le h3 kk.size, fun i x hx => (kk.cell (p := ⟨b, o + i, none⟩) h3 (fun hm => hn _ _ _ rfl hp hm)).trans (h4 i x hx)⟩
theorem RdI.len (h : RdI k w (.slice a n cp) l) : n = l.length := by
  obtain ⟨a', n', cp', he, hl, -⟩ := h.form
  obtain ⟨h1, h2, h3⟩ := Value.slice.inj he
  rw [h2, hl]
theorem RdI.cap (h : RdI k w (.slice a n cp) l) : n ≤ cp := by
  obtain ⟨a', n', cp', he, hl, h0, hc⟩ := h.form
  obtain ⟨h1, h2, h3⟩ := Value.slice.inj he
  subst h1 h2 h3
  by_cases hp : 0 < n
  · exact (hc hp).1
  · omega
theorem RdI.nilcap (h : RdI k w (.slice none n cp) l) : n = 0 ∧ cp = 0 ∧ l = [] := by
  obtain ⟨a', n', cp', he, hl, h0, hc⟩ := h.form
  obtain ⟨h1, h2, h3⟩ := Value.slice.inj he
  subst h1 h2 h3
  obtain ⟨e1, e2⟩ := h0 rfl
  exact ⟨e1, e2, List.eq_nil_of_length_eq_zero (by omega)⟩
/-- The cell of element i. -/
theorem RdI.at (h : RdI k w (.slice a n cp) l) {i : Nat} {x : Int} (hx : l[i]? = some x) : ∃ b o, a = some ⟨b, o, none⟩ ∧ b < w.heap.size ∧ w.cell? ⟨b, o + i, none⟩ = some (.int k x) := by
  obtain ⟨a', n', cp', he, hl, h0, hc⟩ := h.form
  obtain ⟨h1, h2, h3⟩ := Value.slice.inj he
  subst h1 h2 h3
  have hlt := (List.getElem?_eq_some_iff.1 hx).1
  obtain ⟨_, b, o, h2, h3, h4⟩ := hc (by omega)
  exact ⟨b, o, h2, h3, h4 i x hx⟩
theorem RdI.addr (h : RdI k w (.slice a n cp) l) (hp : 0 < n) : ∃ b o, a = some ⟨b, o, none⟩ ∧ b < w.heap.size ∧ ∀ i x, l[i]? = some x → w.cell? ⟨b, o + i, none⟩ = some (.int k x) := by
  obtain ⟨a', n', cp', he, hl, h0, hc⟩ := h.form
  obtain ⟨h1, h2, h3⟩ := Value.slice.inj he
  subst h1 h2 h3
  exact (hc hp).2
theorem RdI.drewN (h : RdI k w v l) (m : Nat) : RdI k (w.drewN m) v l := h.keeps ((Keeps.refl w []).drewN m)

theorem own_form {base : Nat} {e : TypeId} {size : Nat} {xs : List Value} (h : w.ownsRow base e size v n xs) : ∃ ad cp, v = .slice ad n cp := by
  rcases h.2 with ⟨rfl, rfl⟩ | ⟨g, cp, cur, rfl, -⟩
  · exact ⟨_, _, rfl⟩
  · exact ⟨_, _, rfl⟩
theorem own_keeps {base : Nat} {e : TypeId} {size : Nat} {xs : List Value} (h : w.ownsRow base e size v n xs) (kk : Keeps w w' []) : w'.ownsRow base e size v n xs :=
  h.kept (row := none) ⟨kk.os, kk.tape, kk.output, kk.size, fun i hi _ => kk.block i hi (by simp)⟩ (by cases hv : v.ownBlock <;> simp)
theorem own_setCell {base : Nat} {e : TypeId} {size : Nat} {xs : List Value} (h : w.ownsRow base e size v n xs) {a : Addr} (ha : v.ownBlock ≠ some a.block) (u : Value) : (w.setCell a u).ownsRow base e size v n xs :=
  h.kept (row := some a.block) ⟨rfl, rfl, rfl, by simp, fun k _ hk => Below.heap_setCell _ _ _ _ (fun he => hk (by rw [he]))⟩ (.inr ha)
theorem own_base {base base' : Nat} {e : TypeId} {size : Nat} {xs : List Value} (h : w.ownsRow base e size v n xs) (hb : base' ≤ base) : w.ownsRow base' e size v n xs := by
  obtain ⟨h1, h2⟩ := h
  refine ⟨h1, ?_⟩
  rcases h2 with h2 | ⟨g, cap, cur, rfl, hg, r⟩
  · exact .inl h2
  · exact .inr ⟨g, cap, cur, rfl, by omega, r⟩
/-- An owned row of numbers reads as their list. -/
theorem own_reads {base : Nat} {e : TypeId} (h : w.ownsRow base e 1 v l.length (l.map (.int k))) : RdI k w v l := by
  rcases h.2 with ⟨rfl, h0⟩ | ⟨g, cp, cur, rfl, hb, hg, hn, hm, hs, ht⟩
  · exact ⟨_, _, _, rfl, h0.symm, fun _ => ⟨rfl, rfl⟩, fun h => absurd h (by omega)⟩
  · refine ⟨_, _, _, rfl, rfl, (fun h => by cases h), fun h0 => ⟨hn, g, 0, rfl, (Array.getElem?_eq_some_iff.1 hg).1, fun i x hx => ?_⟩⟩
    have hlt := (List.getElem?_eq_some_iff.1 hx).1
    rw [Nat.zero_add, cell_of_row w g i cur e (0, 0) hg]
    have h1 : (cur.toList.take (l.length * 1))[i]? = (l.map (Value.int k))[i]? := by rw [ht]
    rw [List.getElem?_take, if_pos (by omega), List.getElem?_map, hx] at h1
    simpa using h1
/-- The cells of a slice of numbers, as append asks for them. -/
theorem RdI.news {ad : Addr} (h : RdI k w (.slice (some ad) n cp) l) : ∀ j u, (l.map (Value.int k))[j]? = some u → w.cell? (ad.add j) = some u := by
  intro j u hj
  rw [List.getElem?_map] at hj
  obtain ⟨x, hx, rfl⟩ := Option.map_eq_some_iff.1 hj
  obtain ⟨b, o, h2, h3, h4⟩ := h.at hx
  cases h2
  have : (⟨b, o, none⟩ : Addr).add j = ⟨b, o + j, none⟩ := by simp [Addr.add]
  rw [this]
  exact h4
end

theorem nums_one (k : IntKind) (l : List Int) : ∀ u ∈ l.map (Value.int k), u.oneCell' = true := by
  intro u hu
  obtain ⟨x, _, rfl⟩ := List.mem_map.1 hu
  simp [Value.oneCell']

theorem slice_cells {P : Program} {w : World} {t e : TypeId} {r : Reach} {b : Nat} {v : Value} (ht : P.underlying t = some (.slice e)) (h : Value.okWide P w r b t v) : v.cells.toList = [v] := by
  simp only [Value.okWide, ht, Cell.okWide] at h
  cases v <;> simp_all [Value.cells, Cell.ok]

/-- An argument that is a slice of numbers reads as a list. -/
theorem open_nums {H : Type} {enc : TypeId × Value → H} {P : Program} {w : World} {ts e : TypeId} {k : IntKind} {v : Value} {d : DataW H} {p : List MemPlace} (hts : P.underlying ts = some (.slice e)) (he : P.underlying e = some (.int k)) (hE : P.cellsOf e = 1)
    (hv : v.cells.toList = [v]) (h : DataW.Trod enc P w 0 (fun _ => true) true ts v d p) :
    ∃ l : List Int, RdI k w v l ∧ (∀ x ∈ l, (Lit.int k x).wf = true) := by
  obtain ⟨fuel, hf⟩ := h
  rw [hv] at hf
  rcases Go.Deep.open_slice1 hts hE hf with ⟨hcs, hx⟩ | ⟨a, len, cap, m, n, V, D, Pl, hcs, hb, hl, hm, hmm, hx, hel⟩
  · simp at hcs
    subst hcs
    exact ⟨[], .nil, by simp⟩
  · simp at hcs
    subst hcs
    have hmc : len ≤ m := by rw [hmm]; simp; exact hl
    have hread : ∀ i, i < len → ∃ x : Int, w.cell? (a.add i) = some (.int k x) ∧ (Lit.int k x).wf = true := by
      intro i hi
      obtain ⟨hc', ht'⟩ := hel i (by omega)
      obtain ⟨x, ex, _, wx⟩ := DataW.trod_int he ht'
      simp at ex
      exact ⟨x, by rw [hc', ex], wx⟩
    have hlist : ∀ j, j ≤ len → ∃ l : List Int, l.length = j ∧ (∀ i x, l[i]? = some x → w.cell? (a.add i) = some (.int k x)) ∧ (∀ x ∈ l, (Lit.int k x).wf = true) := by
      intro j
      induction j with
      | zero => intro _; exact ⟨[], rfl, by simp, by simp⟩
      | succ j ih =>
        intro hj
        obtain ⟨l, h1, h2, h3⟩ := ih (by omega)
        obtain ⟨x, hx1, hx2⟩ := hread j (by omega)
        refine ⟨l ++ [x], by simp [h1], ?_, ?_⟩
        · intro i y hy
          by_cases hij : i < l.length
          · rw [List.getElem?_append_left hij] at hy
            exact h2 i y hy
          · have hlt := (List.getElem?_eq_some_iff.1 hy).1
            simp at hlt
            have : i = j := by omega
            subst this
            rw [List.getElem?_append_right (by omega)] at hy
            simp [h1] at hy
            subst hy
            exact hx1
        · intro y hy
          simp at hy
          rcases hy with hy | rfl
          · exact h3 y hy
          · exact hx2
    obtain ⟨l, hl1, hl2, hl3⟩ := hlist len (Nat.le_refl _)
    refine ⟨l, ⟨_, _, _, rfl, hl1.symm, (fun h => by cases h), fun h0 => ?_⟩, hl3⟩
    obtain ⟨x, hx⟩ : ∃ x, l[0]? = some x := ⟨_, List.getElem?_eq_getElem (by omega)⟩
    have hc0 := hl2 0 x hx
    have e0 : a.add 0 = a := by simp [Addr.add]
    rw [e0] at hc0
    have hsp : a.spot = none := by
      cases hsp : a.spot with
      | none => rfl
      | some q =>
        simp [World.cell?] at hc0
        split at hc0 <;> simp [hsp] at hc0
    have ha : a = ⟨a.block, a.off, none⟩ := by cases a; simp_all
    refine ⟨hl, a.block, a.off, by rw [← ha], World.block_lt_of_cell? w a hc0, fun i y hy => ?_⟩
    have h1 := hl2 i y hy
    have e1 : a.add i = ⟨a.block, a.off + i, none⟩ := by rw [ha]; simp [Addr.add]
    rw [e1] at h1
    exact h1
end

section
set_option linter.unusedVariables false
set_option linter.unusedSimpArgs false
set_option linter.unusedSectionVars false
open Go.RowKit Go.ChangeMaps Go.MapKept Go.Maps
open Go.WideElems (Fit rd rg pl rd_key rd_val)

theorem Tryz.ikeyed : Keyed Tryz.prog 3 := int_keyed Tryz.underlying3

/-- A key as a value. -/
abbrev ikey (q : Int) : Value := .int .i64 q
def IkWf (q : Int) : Prop := (Lit.int .i64 q).wf = true
def updI (f : Int → Option Int) (q : Int) (v : Int) : Int → Option Int := fun r => if r = q then some v else f r
def delI (f : Int → Option Int) (q : Int) : Int → Option Int := fun r => if r = q then none else f r

theorem ikey_lit {q : Int} (h : IkWf q) : ∃ kl, keyOf Tryz.prog 3 (ikey q) = some kl :=
  ⟨_, keyOf_int_mk Tryz.underlying3 h⟩
theorem ikey_inj {a b : Int} (h : ikey a = ikey b) : a = b := by
  simpa [ikey] using h

/-- Block b of w is a map of at most n entries that holds what f says. -/
def MapI (w : World) (b n : Nat) (f : Int → Option Int) : Prop :=
  ∃ D : DataW Unit, w.ownsMap Tryz.prog 3 (plainElem Tryz.prog 3) b n D ∧
    ∀ q kl, IkWf q → keyOf Tryz.prog 3 (ikey q) = some kl → Maps.has D kl = (f q).isSome ∧ D.atKey kl (.lit (.int .i64 0)) = .lit (.int .i64 ((f q).getD 0))

theorem zeroInt (w : World) : (zeroValue 3).run Tryz.prog w = .ok (.int .i64 0) w := by kernel_rfl

section
variable {w w' : World} {b n : Nat} {f : Int → Option Int} {q : Int}

theorem MapI.lt (h : MapI w b n f) : b < w.heap.size := by obtain ⟨D, h, -⟩ := h; exact h.lt
theorem MapI.mono (h : MapI w b n f) {m : Nat} (hm : n ≤ m) : MapI w b m f := by obtain ⟨D, h, h2⟩ := h; exact ⟨D, h.mono hm, h2⟩
theorem MapI.keeps {S : List Nat} (h : MapI w b n f) (k : Keeps w w' S) (hn : b ∉ S) : MapI w' b n f := by
  obtain ⟨D, ⟨es, clock, hb, r⟩, h2⟩ := h
  exact ⟨D, ⟨es, clock, (k.block b (Array.getElem?_eq_some_iff.1 hb).1 hn).trans hb, r⟩, h2⟩
theorem MapI.made (w : World) : MapI (w.alloc (.map #[] 0)) w.heap.size 0 (fun _ => none) :=
  ⟨_, World.ownsMap_made w _ _ _, fun q kl _ _ => ⟨rfl, rfl⟩⟩

theorem MapI.look (h : MapI w b n f) (hq : IkWf q) : (Instr.lookup 171 (.map (some b)) (ikey q) false).run Tryz.prog w = .ok (.int .i64 ((f q).getD 0)) w := by
  obtain ⟨D, h, h2⟩ := h
  obtain ⟨kl, hk⟩ := ikey_lit hq
  obtain ⟨c, hr, ha, -⟩ := h.lookup_int (t := 171) (q := .i64) Tryz.ikeyed Tryz.underlying171 Tryz.underlying3 (zeroInt w) hk
  rw [(h2 q kl hq hk).2] at ha
  have e : (f q).getD 0 = c := by simpa using ha
  rw [hr, e]
theorem MapI.look_ok (h : MapI w b n f) (hq : IkWf q) : (Instr.lookup 171 (.map (some b)) (ikey q) true).run Tryz.prog w = .ok (.tuple #[.int .i64 ((f q).getD 0), .bool (f q).isSome]) w := by
  obtain ⟨D, h, h2⟩ := h
  obtain ⟨kl, hk⟩ := ikey_lit hq
  obtain ⟨v, ps, hr, hv⟩ := h.look_ok (t := 171) Tryz.ikeyed Tryz.underlying171 (zeroInt w) (plainElem_int Tryz.underlying3 (by decide)) hk
  obtain ⟨c, rfl, e, -⟩ := plainElem_int_inv Tryz.underlying3 hv
  rw [(h2 q kl hq hk).2] at e
  have e' : (f q).getD 0 = c := by simpa using congrArg Prod.fst e
  rw [hr, (h2 q kl hq hk).1, e']

theorem MapI.of_put {D : DataW Unit} {kl : Lit} {v : Int} {m : Nat} (K : w'.ownsMap Tryz.prog 3 (plainElem Tryz.prog 3) b m (D.put kl (.lit (.int .i64 v)))) (hq : IkWf q) (hk : keyOf Tryz.prog 3 (ikey q) = some kl)
    (hD : Maps.IsMap D)
    (h2 : ∀ q kl, IkWf q → keyOf Tryz.prog 3 (ikey q) = some kl → Maps.has D kl = (f q).isSome ∧ D.atKey kl (.lit (.int .i64 0)) = .lit (.int .i64 ((f q).getD 0))) : MapI w' b m (updI f q v) := by
  refine ⟨_, K, fun r rl hr hrl => ?_⟩
  by_cases e : r = q
  · subst e
    rw [hk] at hrl
    cases hrl
    have hkl := Tryz.ikeyed.key hk
    rw [Maps.has_put_same hD hkl, Maps.atKey_put_same hD hkl]
    simp [updI]
  · have hne : rl ≠ kl := fun e2 => by
      subst e2
      exact e (ikey_inj (Tryz.ikeyed.inj hrl hk))
    rw [Maps.has_put_other hne, Maps.atKey_put_other hne]
    simp only [updI, if_neg e]
    exact h2 r rl hr hrl

theorem MapI.update (h : MapI w b n f) (hq : IkWf q) (v : Int) (hv : (Lit.int .i64 v).wf = true) (hn : n < maxLen) :
    ∃ w', (Instr.mapUpdate 171 (.map (some b)) (ikey q) (.int .i64 v)).run Tryz.prog w = .ok () w' ∧ MapI w' b (n + 1) (updI f q v) ∧ w.grownBy w' (some b) := by
  obtain ⟨D, h, h2⟩ := h
  obtain ⟨kl, hk⟩ := ikey_lit hq
  obtain ⟨w', hr, ho, hg⟩ := h.update (t := 171) Tryz.ikeyed Tryz.underlying171 hn hk (plainElem_int Tryz.underlying3 hv)
  exact ⟨w', hr, MapI.of_put ho hq hk h.isMap h2, hg⟩

theorem grown_setBlock (w : World) (b : Nat) (o : Obj) (h : b < w.heap.size) : w.grownBy (setBlock w b o) (some b) :=
  ⟨rfl, rfl, rfl, by simp [setBlock], fun i _ hi => by
    have hne : b ≠ i := fun e => hi (by rw [e])
    show (w.heap.setIfInBounds b o)[i]? = _
    rw [Array.getElem?_setIfInBounds, if_neg hne]⟩

theorem born_at {es : Array MapEntry} (hn : (es.toList.map (·.born)).Nodup) {j : Nat} {e0 : MapEntry} (h : es[j]? = some e0) : es.findIdx? (fun e => ((e.born : Nat) : Int) == ((e0.born : Nat) : Int)) = some j := by
  rw [Go.WideElems.findIdx_arr]
  exact Go.WideElems.findIdx_born hn (by simpa using h)
theorem born_push {es : Array MapEntry} {clock : Nat} {k v : Value} (h1 : ∀ x ∈ es.toList, x.born < clock) (hn : (es.toList.map (·.born)).Nodup) : ((es.push ⟨k, v, clock⟩).toList.map (·.born)).Nodup := by
  rw [Array.toList_push, List.map_append, List.nodup_append]
  refine ⟨hn, by simp, fun a ha c hc e => ?_⟩
  obtain ⟨x, hx, rfl⟩ := List.mem_map.1 ha
  have h2 := h1 x hx
  simp at hc
  omega
theorem push_val {es : Array MapEntry} {clock : Nat} {k v v' : Value} : (es.push ⟨k, v, clock⟩).modify es.size (fun e => { e with val := v' }) = es.push ⟨k, v', clock⟩ := by
  apply Array.ext'
  rw [Array.toList_modify, Array.toList_push, Array.toList_push, ← Array.length_toList, Go.WideElems.modify_last]

/-- m[k]++ : the entry made ready, read, stored. -/
theorem MapI.entry (h : MapI w b n f) (hq : IkWf q) (v : Int) (hv : (Lit.int .i64 v).wf = true) (hn : n < maxLen) :
    ∃ v0 st w2 w3, (Instr.mapEntry 171 (.map (some b)) (ikey q)).run Tryz.prog w = .ok (.tuple #[v0, .int .i64 st]) w2 ∧
      (Instr.lookup 171 (.map (some b)) (ikey q) false).run Tryz.prog w2 = .ok (.int .i64 ((f q).getD 0)) w2 ∧
      (Instr.entryStore 171 (.map (some b)) (.int .i64 st) (.int .i64 v)).run Tryz.prog w2 = .ok () w3 ∧
      MapI w3 b (n + 1) (updI f q v) ∧ w.grownBy w2 (some b) ∧ w.grownBy w3 (some b) := by
  obtain ⟨w3', hr3, hm3, hg3⟩ := h.update hq v hv hn
  obtain ⟨w1', hr1, hm1, hg1⟩ := h.update hq 0 (by decide) hn
  have hlook0 := h.look hq
  have hlook1 := hm1.look hq
  have hlt := h.lt
  obtain ⟨D, ⟨es, clock, hb, F, hs, hD⟩, h2⟩ := h
  obtain ⟨kl, hk⟩ := ikey_lit hq
  obtain ⟨s1, s2, -⟩ := F.stamped
  have hz := zeroInt w
  have K := Tryz.ikeyed
  have hu := Tryz.underlying171
  rcases K.find w hk es.toList F.keys with ⟨h1, h3⟩ | ⟨j, e0, h1, h3, h4⟩
  · have he : (Instr.mapEntry 171 (.map (some b)) (ikey q)).run Tryz.prog w = .ok (.tuple #[.int .i64 0, .int .i64 (clock : Nat)]) (setBlock w b (.map (es.push ⟨ikey q, .int .i64 0, clock⟩) (clock + 1))) := by
      simp [Instr.mapEntry, run_underlying hu, MapKept.run_getObj_map hb, K.check w false hk, h1, hz, MapKept.run_setObj_map _ hb, Result.andThen, setBlock, goInt]
    have hu1 : ∀ x, (Instr.mapUpdate 171 (.map (some b)) (ikey q) (.int .i64 x)).run Tryz.prog w = .ok () (setBlock w b (.map (es.push ⟨ikey q, .int .i64 x, clock⟩) (clock + 1))) := fun x => by
      simp [Instr.mapUpdate, run_underlying hu, MapKept.run_getObj_map hb, K.check w false hk, h1, MapKept.run_setObj_map _ hb, Result.andThen, setBlock]
    have hw2 : (setBlock w b (.map (es.push ⟨ikey q, .int .i64 0, clock⟩) (clock + 1))).heap[b]? = some (.map (es.push ⟨ikey q, .int .i64 0, clock⟩) (clock + 1)) := heap_setBlock_same hb _
    have hidx := born_at (born_push (k := ikey q) (v := .int .i64 0) s1 s2) (j := es.size) (e0 := ⟨ikey q, .int .i64 0, clock⟩) (by simp)
    have hst0 : ∀ w2 : World, w2.heap[b]? = some (.map (es.push ⟨ikey q, .int .i64 0, clock⟩) (clock + 1)) → (Instr.entryStore 171 (.map (some b)) (.int .i64 (clock : Nat)) (.int .i64 v)).run Tryz.prog w2 = .ok () (setBlock w2 b (.map (es.push ⟨ikey q, .int .i64 v, clock⟩) (clock + 1))) := fun w2 hw2 => by
      simp [Instr.entryStore, MapKept.run_getObj_map hw2, asInt, asIntOf, goInt, hidx, push_val, MapKept.run_setObj_map _ hw2, Result.andThen, setBlock]
    have hst := hst0 _ hw2
    have ess : setBlock (setBlock w b (.map (es.push ⟨ikey q, .int .i64 0, clock⟩) (clock + 1))) b (.map (es.push ⟨ikey q, .int .i64 v, clock⟩) (clock + 1)) = setBlock w b (.map (es.push ⟨ikey q, .int .i64 v, clock⟩) (clock + 1)) := by simp [setBlock]
    rw [ess] at hst
    rw [hu1 v] at hr3
    rw [hu1 0] at hr1
    have ew3 : setBlock w b (.map (es.push ⟨ikey q, .int .i64 v, clock⟩) (clock + 1)) = w3' := by injection hr3
    have ew1 : setBlock w b (.map (es.push ⟨ikey q, .int .i64 0, clock⟩) (clock + 1)) = w1' := by injection hr1
    refine ⟨_, _, _, _, he, ?_, hst, ew3 ▸ hm3, grown_setBlock w b _ hlt, grown_setBlock w b _ hlt⟩
    rw [ew1, hlook1]
    rcases Maps.fit_look false K hu hz hb F hk with ⟨-, -, hat⟩ | ⟨x0, y, hx1, hx2, -⟩
    · have h5 := hat (.lit (.int .i64 0))
      rw [← hD, (h2 q kl hq hk).2] at h5
      have h6 : (f q).getD 0 = 0 := by simpa using h5
      rw [h6]; simp [updI]
    · exact absurd hx2 (h3 x0 hx1)
  · have hj : es[j]? = some e0 := by simpa using h3
    have hsame : es.modify j (fun e => { e with key := ikey q }) = es := by
      apply Array.ext'
      rw [Array.toList_modify, ChangeMaps.modify_eq_set _ _ _ _ h3]
      have : ({ e0 with key := ikey q } : MapEntry) = e0 := by rw [← h4]
      rw [this]
      exact Go.WideElems.set_self _ _ _ h3
    have hval : es.modify j (fun e => { e with key := ikey q, val := .int .i64 v }) = es.modify j (fun e => { e with val := .int .i64 v }) := by
      apply Array.ext'
      rw [Array.toList_modify, Array.toList_modify, ChangeMaps.modify_eq_set _ _ _ _ h3, ChangeMaps.modify_eq_set _ _ _ _ h3, ← h4]
    have he : (Instr.mapEntry 171 (.map (some b)) (ikey q)).run Tryz.prog w = .ok (.tuple #[e0.val, .int .i64 (e0.born : Nat)]) (setBlock w b (.map es clock)) := by
      simp [Instr.mapEntry, run_underlying hu, MapKept.run_getObj_map hb, K.check w false hk, h1, hj, h4, K.stays w hk, hsame, MapKept.run_setObj_map _ hb, Result.andThen, setBlock, goInt]
    have hu1 : (Instr.mapUpdate 171 (.map (some b)) (ikey q) (.int .i64 v)).run Tryz.prog w = .ok () (setBlock w b (.map (es.modify j (fun e => { e with val := .int .i64 v })) clock)) := by
      simp [Instr.mapUpdate, run_underlying hu, MapKept.run_getObj_map hb, K.check w false hk, h1, hj, h4, K.stays w hk, hval, MapKept.run_setObj_map _ hb, Result.andThen, setBlock]
    have hw2 : (setBlock w b (.map es clock)).heap[b]? = some (.map es clock) := heap_setBlock_same hb _
    have hidx := born_at s2 hj
    have hst0 : ∀ w2 : World, w2.heap[b]? = some (.map es clock) → (Instr.entryStore 171 (.map (some b)) (.int .i64 (e0.born : Nat)) (.int .i64 v)).run Tryz.prog w2 = .ok () (setBlock w2 b (.map (es.modify j (fun e => { e with val := .int .i64 v })) clock)) := fun w2 hw2 => by
      simp [Instr.entryStore, MapKept.run_getObj_map hw2, asInt, asIntOf, goInt, hidx, MapKept.run_setObj_map _ hw2, Result.andThen, setBlock]
    have hst := hst0 _ hw2
    have ess : setBlock (setBlock w b (.map es clock)) b (.map (es.modify j (fun e => { e with val := .int .i64 v })) clock) = setBlock w b (.map (es.modify j (fun e => { e with val := .int .i64 v })) clock) := by simp [setBlock]
    rw [ess] at hst
    rw [hu1] at hr3
    have ew3 : setBlock w b (.map (es.modify j (fun e => { e with val := .int .i64 v })) clock) = w3' := by injection hr3
    refine ⟨_, _, _, _, he, ?_, hst, ew3 ▸ hm3, grown_setBlock w b _ hlt, grown_setBlock w b _ hlt⟩
    have hm : MapI (setBlock w b (.map es clock)) b n f := ⟨D, ⟨es, clock, heap_setBlock_same hb _, F, hs, hD⟩, h2⟩
    exact hm.look hq

/-- delete(m, k). -/
theorem MapI.delete (h : MapI w b n f) (hq : IkWf q) (ty : TypeId) :
    ∃ w', (Builtin.delete_ #[171, 3] ty #[.map (some b), ikey q]).run Tryz.prog w = .ok (.tuple #[]) w' ∧ MapI w' b n (delI f q) ∧ w.grownBy w' (some b) := by
  obtain ⟨D, h, h2⟩ := h
  obtain ⟨kl, hk⟩ := ikey_lit hq
  obtain ⟨w', hr, ho, hg⟩ := h.drop (t := 171) Tryz.ikeyed Tryz.underlying171 hk ty
  refine ⟨w', hr, ⟨_, ho, fun r rl hr hrl => ?_⟩, hg.grown⟩
  by_cases e : r = q
  · subst e
    rw [hk] at hrl
    cases hrl
    rw [has_del_same, atKey_del_same]
    simp [delI]
  · have hne : rl ≠ kl := fun e2 => by
      subst e2
      exact e (ikey_inj (Tryz.ikeyed.inj hrl hk))
    rw [has_del_other hne, atKey_del_other hne]
    simp only [delI, if_neg e]
    exact h2 r rl hr hrl
theorem MapI.alloc (h : MapI w b n f) (o : Obj) : MapI (w.alloc o) b n f := h.keeps ((Keeps.refl w []).alloc o) (by simp)
end
end

section
set_option linter.unusedVariables false
set_option linter.unusedSimpArgs false

/-! ### Validity, sums, used symbols -/
def fineC (n : Int) : Bool := decide (0 ≤ n) && decide (n ≤ 2147483648)
def rightL (l : List Int) : Bool := decide (l.length ≤ 256) && l.all fineC
def sumL : List Int → Int
  | [] => 0
  | x :: l => x + sumL l
def usedF : Nat → List Int → List Int
  | _, [] => []
  | i, x :: l => if 0 < x then (i : Int) :: usedF (i + 1) l else usedF (i + 1) l
def usedL (l : List Int) : List Int := usedF 0 l

theorem take_next {l : List Int} {k : Nat} {x : Int} (h : l[k]? = some x) : l.take (k + 1) = l.take k ++ [x] := by
  rw [List.take_add_one, h]; rfl
theorem sumL_snoc (l : List Int) (x : Int) : sumL (l ++ [x]) = sumL l + x := by
  induction l with
  | nil => simp [sumL]
  | cons y l ih => simp [sumL, ih]; omega
theorem sumL_append (l m : List Int) : sumL (l ++ m) = sumL l + sumL m := by
  induction l with
  | nil => simp [sumL]
  | cons y l ih => simp [sumL, ih]; omega
theorem usedF_snoc (i : Nat) (l : List Int) (x : Int) : usedF i (l ++ [x]) = usedF i l ++ (if 0 < x then [((i + l.length : Nat) : Int)] else []) := by
  induction l generalizing i with
  | nil => simp only [List.nil_append, usedF]; split <;> simp
  | cons y l ih =>
    simp only [List.cons_append, usedF, ih, List.length_cons]
    rw [show i + 1 + l.length = i + (l.length + 1) by omega]
    split <;> simp
theorem usedL_snoc (l : List Int) (x : Int) : usedL (l ++ [x]) = usedL l ++ (if 0 < x then [(l.length : Int)] else []) := by
  unfold usedL; rw [usedF_snoc]; simp
theorem usedF_len (i : Nat) (l : List Int) : (usedF i l).length ≤ l.length := by
  induction l generalizing i with
  | nil => simp [usedF]
  | cons y l ih =>
    simp only [usedF]
    have := ih (i + 1)
    split <;> simp <;> omega
theorem usedL_len (l : List Int) : (usedL l).length ≤ l.length := usedF_len 0 l
theorem usedF_mem {i : Nat} {l : List Int} {s : Int} (h : s ∈ usedF i l) : ∃ j : Nat, s = ((i + j : Nat) : Int) ∧ ∃ x, l[j]? = some x ∧ 0 < x := by
  induction l generalizing i with
  | nil => simp [usedF] at h
  | cons y l ih =>
    simp only [usedF] at h
    split at h
    · rcases List.mem_cons.1 h with rfl | h
      · exact ⟨0, by simp, y, by simp, by assumption⟩
      · obtain ⟨j, rfl, x, hx, h0⟩ := ih h
        exact ⟨j + 1, by congr 1; omega, x, by simpa using hx, h0⟩
    · obtain ⟨j, rfl, x, hx, h0⟩ := ih h
      exact ⟨j + 1, by congr 1; omega, x, by simpa using hx, h0⟩
theorem usedL_mem {l : List Int} {s : Int} (h : s ∈ usedL l) : ∃ j : Nat, s = (j : Int) ∧ ∃ x, l[j]? = some x ∧ 0 < x := by
  obtain ⟨j, rfl, x, hx, h0⟩ := usedF_mem h
  exact ⟨j, by simp, x, hx, h0⟩

theorem fineC_iff {n : Int} : fineC n = true ↔ 0 ≤ n ∧ n ≤ 2147483648 := by simp [fineC]
theorem rightL_iff {l : List Int} : rightL l = true ↔ l.length ≤ 256 ∧ ∀ x ∈ l, 0 ≤ x ∧ x ≤ 2147483648 := by
  simp [rightL, fineC]
theorem sumL_bd {l : List Int} (h : ∀ x ∈ l, 0 ≤ x ∧ x ≤ 2147483648) : 0 ≤ sumL l ∧ sumL l ≤ l.length * 2147483648 := by
  induction l with
  | nil => simp [sumL]
  | cons y l ih =>
    have h1 := h y (by simp)
    have h2 := ih (fun x hx => h x (by simp [hx]))
    simp only [sumL, List.length_cons]
    push_cast
    omega
theorem sumL_take_bd {l : List Int} (h : rightL l = true) (k : Nat) : 0 ≤ sumL (l.take k) ∧ sumL (l.take k) ≤ 549755813888 := by
  obtain ⟨h1, h2⟩ := rightL_iff.1 h
  have h3 := sumL_bd (l := l.take k) (fun x hx => h2 x (List.mem_of_mem_take hx))
  have h4 : (l.take k).length ≤ 256 := by simp; omega
  omega
theorem right_get {l : List Int} (h : rightL l = true) {k : Nat} {x : Int} (hx : l[k]? = some x) : 0 ≤ x ∧ x ≤ 2147483648 := (rightL_iff.1 h).2 x (List.mem_of_getElem? hx)

/-! ### The logarithm -/
/-- 256 times the logarithm, linear between powers of two, rounded down. -/
def logN (n : Nat) : Nat := 256 * n.log2 + (n - 2 ^ n.log2) * 256 / 2 ^ n.log2
def logI (n : Int) : Int := (logN n.toNat : Int)

theorem log_hi {n k : Nat} (hk : n.log2 = k) (h8 : 8 ≤ k) : logN n = 256 * k + (n - 2 ^ k) / 2 ^ (k - 8) := by
  unfold logN
  rw [hk]
  have e : 2 ^ k = 2 ^ (k - 8) * 256 := by
    rw [show (256 : Nat) = 2 ^ 8 from rfl, ← Nat.pow_add]; congr 1; omega
  generalize n - 2 ^ k = p
  rw [e, Nat.mul_div_mul_right _ _ (by omega)]
theorem log_lo {n k : Nat} (hk : n.log2 = k) (h8 : k ≤ 8) : logN n = 256 * k + (n - 2 ^ k) * 2 ^ (8 - k) := by
  unfold logN
  rw [hk]
  have e : (256 : Nat) = 2 ^ (8 - k) * 2 ^ k := by
    rw [← Nat.pow_add, show 8 - k + k = 8 by omega]
  generalize n - 2 ^ k = p
  congr 1
  conv => lhs; rw [e]
  rw [← Nat.mul_assoc, Nat.mul_div_cancel _ (Nat.two_pow_pos k)]

theorem log_le {m n : Nat} (h0 : 1 ≤ m) (h : m ≤ n) : logN m ≤ logN n := by
  have hm := Nat.log2_self_le (n := m) (by omega)
  have hn := Nat.log2_self_le (n := n) (by omega)
  have hm2 := Nat.lt_log2_self (n := m)
  have hn2 := Nat.lt_log2_self (n := n)
  unfold logN
  generalize m.log2 = a at *
  generalize n.log2 = b at *
  rcases Nat.lt_trichotomy a b with hab | rfl | hab
  · have h1 : (m - 2 ^ a) * 256 / 2 ^ a < 256 := by
      rw [Nat.div_lt_iff_lt_mul (Nat.two_pow_pos a)]
      rw [Nat.pow_succ] at hm2
      omega
    have : 256 * (a + 1) ≤ 256 * b := Nat.mul_le_mul_left _ hab
    exact Nat.le_trans (Nat.add_le_add_left (Nat.le_of_lt h1) (256 * a)) (Nat.le_trans (by omega) (Nat.le_add_right (256 * b) _))
  · have : (m - 2 ^ a) * 256 / 2 ^ a ≤ (n - 2 ^ a) * 256 / 2 ^ a := Nat.div_le_div_right (by omega)
    omega
  · exfalso
    have : 2 ^ (b + 1) ≤ 2 ^ a := Nat.pow_le_pow_right (by omega) hab
    omega
theorem log2_lt {n : Nat} (h : n ≤ 4611686018427387903) : n.log2 ≤ 61 := by
  by_cases h0 : n = 0
  · subst h0; simp
  · have := (Nat.log2_lt h0 (k := 62)).2 (by omega)
    omega
theorem logN_bd {n : Nat} (h : n ≤ 4611686018427387903) : logN n ≤ 15871 := by
  have h1 := log2_lt h
  have h2 := Nat.lt_log2_self (n := n)
  unfold logN
  generalize n.log2 = a at *
  have h3 : (n - 2 ^ a) * 256 / 2 ^ a < 256 := by
    rw [Nat.div_lt_iff_lt_mul (Nat.two_pow_pos a)]
    rw [Nat.pow_succ] at h2
    have := Nat.two_pow_pos a
    omega
  omega

/-! ### The cost -/
def costF (t : Int) : List Int → Int
  | [] => 0
  | x :: l => (if 0 < x then x * (logI t - logI x) else 0) + costF t l
def costL (l : List Int) : Int := costF (sumL l) l
theorem costF_snoc (t : Int) (l : List Int) (x : Int) : costF t (l ++ [x]) = costF t l + (if 0 < x then x * (logI t - logI x) else 0) := by
  induction l with
  | nil => simp [costF]
  | cons y l ih => simp only [List.cons_append, costF, ih]; omega
end

section
set_option linter.unusedVariables false
set_option linter.unusedSimpArgs false
set_option linter.unusedSectionVars false
open Go.RowKit

/-- The states of a norm. -/
def stN (n : Int) : Int := if n = -1 then 1 else n
def sumN : List Int → Int
  | [] => 0
  | n :: l => stN n + sumN l
/-- A table is valid for bounds on its symbols and its logarithm. -/
def okN (g : Int) (l : List Int) (sy lg : Int) : Bool := decide (0 ≤ g ∧ g ≤ lg ∧ 0 < l.length ∧ (l.length : Int) ≤ sy ∧ l.getD (l.length - 1) 0 ≠ 0 ∧ (∀ n ∈ l, -1 ≤ n) ∧ sumN l = 2 ^ g.toNat)

theorem stN_nonneg {n : Int} (h : -1 ≤ n) : 0 ≤ stN n := by unfold stN; split <;> omega
theorem stN_max {n : Int} (h : -1 ≤ n) : max n (-n) = stN n := by unfold stN; split <;> omega
theorem sumN_append (l m : List Int) : sumN (l ++ m) = sumN l + sumN m := by
  induction l with
  | nil => simp [sumN]
  | cons x l ih => simp only [List.cons_append, sumN, ih]; omega
theorem sumN_nonneg {l : List Int} (h : ∀ n ∈ l, -1 ≤ n) : 0 ≤ sumN l := by
  induction l with
  | nil => simp [sumN]
  | cons x l ih =>
    have h1 := stN_nonneg (h x (by simp))
    have h2 := ih (fun n hn => h n (by simp [hn]))
    simp only [sumN]; omega
theorem sumN_take {l : List Int} {k : Nat} {x : Int} (h : l[k]? = some x) : sumN (l.take (k + 1)) = sumN (l.take k) + stN x := by
  rw [take_next h, sumN_append]; simp [sumN]
theorem okN_false {g : Int} {l : List Int} {sy lg : Int} (h : ¬(0 ≤ g ∧ g ≤ lg ∧ 0 < l.length ∧ (l.length : Int) ≤ sy ∧ l.getD (l.length - 1) 0 ≠ 0 ∧ (∀ n ∈ l, -1 ≤ n) ∧ sumN l = 2 ^ g.toNat)) : okN g l sy lg = false := decide_eq_false h
theorem okN_low {g : Int} {l : List Int} {sy lg : Int} {k : Nat} {x : Int} (h : l[k]? = some x) (hx : x < -1) : okN g l sy lg = false :=
  okN_false (fun ⟨_, _, _, _, _, h6, _⟩ => by have := h6 x (List.mem_of_getElem? h); omega)
theorem sumN_prefix {l : List Int} {k : Nat} (h : ∀ n ∈ l, -1 ≤ n) : sumN (l.take k) ≤ sumN l := by
  have e := sumN_append (l.take k) (l.drop k)
  rw [List.take_append_drop] at e
  have := sumN_nonneg (l := l.drop k) (fun n hn => h n (List.mem_of_mem_drop hn))
  omega
theorem okN_big {g : Int} {l : List Int} {sy lg : Int} {k : Nat} {x : Int} (h : l[k]? = some x) (hx : (2 : Int) ^ g.toNat < sumN (l.take k) + stN x) : okN g l sy lg = false :=
  okN_false (fun ⟨_, _, _, _, _, h6, h7⟩ => by
    have h1 := sumN_prefix (k := k + 1) h6
    rw [sumN_take h] at h1
    omega)
theorem okN_sum {g : Int} {l : List Int} {sy lg : Int} (h1 : 0 ≤ g) (h2 : g ≤ lg) (h3 : 0 < l.length) (h4 : (l.length : Int) ≤ sy) (h5 : l.getD (l.length - 1) 0 ≠ 0) (h6 : ∀ n ∈ l, -1 ≤ n) : okN g l sy lg = decide (sumN l = 2 ^ g.toNat) :=
  decide_eq_decide.2 ⟨fun h => h.2.2.2.2.2.2, fun h => ⟨h1, h2, h3, h4, h5, h6, h⟩⟩
theorem pow9 {g : Int} (h : g ≤ 9) : (1 : Int) ≤ 2 ^ g.toNat ∧ (2 : Int) ^ g.toNat ≤ 512 := by
  obtain ⟨m, hm⟩ : ∃ m, g.toNat = m := ⟨_, rfl⟩
  have hm9 : m ≤ 9 := by omega
  rw [hm]
  match m, hm9 with
  | 0, _ => decide
  | 1, _ => decide
  | 2, _ => decide
  | 3, _ => decide
  | 4, _ => decide
  | 5, _ => decide
  | 6, _ => decide
  | 7, _ => decide
  | 8, _ => decide
  | 9, _ => decide

set_option maxRecDepth 100000 in
set_option maxHeartbeats 4000000 in
theorem ncheck_any (g sy lg : Int) (v : Value) (l : List Int) (w : World) (hv : RdI .i64 w v l) (hn : l.length ≤ 1000000) (hb : ∀ x ∈ l, -9223372036854775808 ≤ x ∧ x ≤ 9223372036854775807) (hg0 : 0 ≤ lg) (hg9 : lg ≤ 9) :
    Calls Tryz.prog 165 #[.agg #[.int .i64 g, v], .int .i64 sy, .int .i64 lg] w fun e w' => e = .returned (.int .i64 (if okN g l sy lg then 0 else 13)) ∧ Keeps w w' [] := by
  obtain ⟨A0, n, cp0, rfl, hnl, -⟩ := hv.form
  have k0 := (Keeps.refl w []).alloc (.cells #[.int .i64 g, .slice A0 n cp0] 92)
  have HV := Lib.hid (hv.keeps k0)
  have HN := Lib.hid hnl
  have HB := Lib.hid hb
  have hn' : n ≤ 1000000 := by omega
  obtain ⟨E, hE⟩ : ∃ E : Int, (if okN g l sy lg then 0 else 13) = E := ⟨_, rfl⟩
  have HE := Lib.hid hE
  have HE0 : Hid (okN g l sy lg = false → E = 13) := fun h => by rw [← HE.out, h]; rfl
  rw [hE]
  clear hv hnl hb hn hE
  obtain ⟨R1, e1⟩ : ∃ R, decide (g < 0) = R := ⟨_, rfl⟩
  obtain ⟨R2, e2⟩ : ∃ R, decide (lg < g) = R := ⟨_, rfl⟩
  have hmin : ¬ (9 < lg) := by omega
  by_cases hn0 : n = 0
  · subst hn0
    have hno : Hid (E = 13) := HE0.out (okN_false (fun h => by have := HN.out; omega))
    go_enter Tryz.func165, Tryz.ntmps165
    go_wp2_with fail
    all_goals
      go_ret
      exact ⟨by rw [hno.out]; rfl, k0⟩
  obtain ⟨m, rfl⟩ : ∃ m, n = m + 1 := ⟨n - 1, by omega⟩
  obtain ⟨y, hy⟩ : ∃ y, l[m]? = some y := ⟨_, List.getElem?_eq_getElem (by have := HN.out; omega)⟩
  have HY : Hid (l.getD (l.length - 1) 0 = y) := by
    show _ = _
    rw [← HN.out, Nat.add_sub_cancel, List.getD_eq_getElem?_getD, hy]; rfl
  obtain ⟨bb, o, rfl, hbb, hc⟩ := HV.out.at hy
  have hcap := HV.out.cap
  obtain ⟨R4, e4⟩ : ∃ R, decide (sy < ((m : Int) + 1)) = R := ⟨_, rfl⟩
  obtain ⟨R5, e5⟩ : ∃ R, (y == 0) = R := ⟨_, rfl⟩
  have HX : Hid (R1 = true ∨ R2 = true ∨ R4 = true ∨ R5 = true → E = 13) := fun h => HE0.out (okN_false (fun q => by
    have hl := HN.out
    obtain ⟨q1, q2, q3, q4, q5, -, -⟩ := q
    rw [HY.out] at q5
    rcases h with h | h | h | h
    · rw [h] at e1; simp at e1; omega
    · rw [h] at e2; simp at e2; omega
    · rw [h] at e4; simp at e4; omega
    · rw [h] at e5; simp at e5; exact q5 e5))
  have HG : Hid (¬ R1 = true → ¬ R2 = true → ¬ R4 = true → ¬ R5 = true → 0 ≤ g ∧ g ≤ lg ∧ (∀ (h6 : ∀ n ∈ l, -1 ≤ n), E = if sumN l = 2 ^ g.toNat then 0 else 13)) := fun h1 h2 h4 h5 => by
    have a1 : 0 ≤ g := by rw [← e1] at h1; simp at h1; omega
    have a2 : g ≤ lg := by rw [← e2] at h2; simp at h2; omega
    have a4 : (l.length : Int) ≤ sy := by rw [← e4] at h4; simp at h4; have := HN.out; omega
    have a5 : y ≠ 0 := by rw [← e5] at h5; simpa using h5
    refine ⟨a1, a2, fun h6 => ?_⟩
    rw [← HE.out, okN_sum a1 a2 (by have := HN.out; omega) a4 (by rw [HY.out]; exact a5) h6]
    simp
  clear hy
  have hz0 : ((m : Int) + 1 == 0) = false := by simp; omega
  by_cases hgr : ¬ (0 ≤ g ∧ g ≤ lg)
  · go_enter Tryz.func165, Tryz.ntmps165
    go_wp2_with fail
    all_goals first
      | (go_ret; exact ⟨by rw [HX.out (by simp [*])]; rfl, k0⟩)
      | (exfalso; obtain ⟨q1, q2, -⟩ := HG.out (by simp_all) (by simp_all) (by simp_all) (by simp_all); exact hgr ⟨q1, q2⟩)
  replace hgr := Classical.not_not.1 hgr
  have hR1 : R1 = false := by rw [← e1]; simp; omega
  have hR2 : R2 = false := by rw [← e2]; simp; omega
  have hsh : ∀ w1 : World, (Op.shift .shl .i64 1 .i64 g).run Tryz.prog w1 = .ok (.int .i64 (2 ^ g.toNat)) w1 := by
    obtain ⟨q1, q2⟩ := hgr
    rcases (by omega : g = 0 ∨ g = 1 ∨ g = 2 ∨ g = 3 ∨ g = 4 ∨ g = 5 ∨ g = 6 ∨ g = 7 ∨ g = 8 ∨ g = 9) with rfl | rfl | rfl | rfl | rfl | rfl | rfl | rfl | rfl | rfl
    all_goals (intro w1; rfl)
  obtain ⟨p1, p2⟩ := pow9 (g := g) (by omega)
  obtain ⟨P2, hP2⟩ : ∃ P : Int, P = 2 ^ g.toNat := ⟨_, rfl⟩
  have HP := Lib.hid hP2
  rw [← hP2] at hsh p1 p2
  subst hR1 hR2
  clear hP2 hgr
  go_enter Tryz.func165, Tryz.ntmps165
  go_wp2_with fail
  all_goals first
    | (go_ret; exact ⟨by rw [HX.out (by simp [*])]; rfl, k0⟩)
    | skip
  have HEE : Hid (∀ (h6 : ∀ n ∈ l, -1 ≤ n), E = if sumN l = P2 then 0 else 13) := fun h6 => by
    rw [HP.out]; exact (HG.out (by simp) (by simp) ‹_› (by simp_all)).2.2 h6
  clear HX HG e1 e2 e4 e5 HY hc hz0
  generalize hW0 : (w.alloc (.cells #[.int .i64 g, .slice (some ⟨bb, o, none⟩) (m + 1) cp0] 92)) = W0 at *
  clear hW0
  go_loopw [7, 50] (fun s7 s50 wr => ∃ k : Nat, k ≤ m + 1 ∧ s7 = .int .i64 (P2 - sumN (l.take k)) ∧ s50 = .int .i64 k ∧ wr = W0 ∧ Hid (∀ x ∈ l.take k, -1 ≤ x) ∧ Hid (sumN (l.take k) ≤ P2)) (fun _ s50 _ => m + 1 - (intOf s50).toNat)
  case atStart => exact ⟨0, Nat.zero_le _, by simp [sumN], rfl, rfl, by show ∀ x ∈ _, _; simp, by show _ ≤ _; simp [sumN]; omega⟩
  case round =>
    obtain ⟨k, hk, rfl, rfl, rfl, hge, hle⟩ := hrel
    by_cases hlt : k < m + 1
    · obtain ⟨x, hx⟩ : ∃ x, l[k]? = some x := ⟨_, List.getElem?_eq_getElem (by have := HN.out; omega)⟩
      obtain ⟨bb', o', e', hbb', hcx⟩ := HV.out.at hx
      cases e'
      have hkn : (k : Int) < (m : Int) + 1 := by omega
      have hk0 : (0 : Int) ≤ (k : Int) := Int.natCast_nonneg _
      obtain ⟨b1, b2⟩ := HB.out x (List.mem_of_getElem? hx)
      have HXg := Lib.hid hx
      clear hx
      have hle' := hle.out
      rcases (by omega : x < -1 ∨ x = -1 ∨ 0 ≤ x) with h3 | h3 | h3
      · have gl : decide (x < -1) = true := by simpa using h3
        have F13 : Hid (E = 13) := HE0.out (okN_low HXg.out h3)
        clear h3
        go_wp2_with fail
        go_ret
        exact ⟨by rw [F13.out]; rfl, k0⟩
      · subst h3
        have gl : decide ((-1) < -1) = false := by simp; try omega
        have hmx : (-1 : Int) ≤ 1 := by omega
        have hst : stN (-1) = 1 := by unfold stN; split <;> omega
        by_cases hbig : P2 - sumN (l.take k) < 1
        · have gb : decide (P2 - sumN (l.take k) < 1) = true := by simpa using hbig
          have F13 : Hid (E = 13) := HE0.out (okN_big HXg.out (by rw [hst, ← HP.out]; omega))
          clear hst hbig
          go_wp2_with fail
          go_ret
          exact ⟨by rw [F13.out]; rfl, k0⟩
        · have gb : decide (P2 - sumN (l.take k) < 1) = false := by simpa using hbig
          have NS := sumN_take HXg.out
          rw [hst] at NS
          have hs0 := sumN_nonneg hge.out
          have hw2 : wrap64 (P2 - sumN (l.take k) - 1) = P2 - sumN (l.take k) - 1 := IntWalk.wrap64_in _ ⟨by omega, by omega⟩
          have NG : Hid (∀ y ∈ l.take (k + 1), -1 ≤ y) := by
            show ∀ y ∈ _, _
            rw [take_next HXg.out]
            intro y hy
            rcases List.mem_append.1 hy with hy | hy
            · exact hge.out y hy
            · rw [List.mem_singleton.1 hy]; omega
          have NS' := Lib.hid NS
          have NL : Hid (sumN (l.take (k + 1)) ≤ P2) := by show _ ≤ _; rw [NS]; omega
          clear hst hs0 NS hbig
          generalize sumN (l.take k) = SK at *
          go_wp2_with fail
          go_roundw
          case rel => exact ⟨k + 1, by omega, by rw [NS'.out]; (congr 1; omega), by go_num, (by first | rfl | trivial), NG, NL⟩
          case measure => simp [intOf]; omega
      · skip
        have gl : decide (x < -1) = false := by simp; try omega
        have hw1 : wrap64 (-x) = -x := IntWalk.wrap64_in _ ⟨by omega, by omega⟩
        have hmx : ¬ (x < -x) := by omega
        have hst : stN x = x := by unfold stN; split <;> omega
        by_cases hbig : P2 - sumN (l.take k) < x
        · have gb : decide (P2 - sumN (l.take k) < x) = true := by simpa using hbig
          have F13 : Hid (E = 13) := HE0.out (okN_big HXg.out (by rw [hst, ← HP.out]; omega))
          clear hst hbig
          go_wp2_with fail
          go_ret
          exact ⟨by rw [F13.out]; rfl, k0⟩
        · have gb : decide (P2 - sumN (l.take k) < x) = false := by simpa using hbig
          have NS := sumN_take HXg.out
          rw [hst] at NS
          have hs0 := sumN_nonneg hge.out
          have hw2 : wrap64 (P2 - sumN (l.take k) - x) = P2 - sumN (l.take k) - x := IntWalk.wrap64_in _ ⟨by omega, by omega⟩
          have NG : Hid (∀ y ∈ l.take (k + 1), -1 ≤ y) := by
            show ∀ y ∈ _, _
            rw [take_next HXg.out]
            intro y hy
            rcases List.mem_append.1 hy with hy | hy
            · exact hge.out y hy
            · rw [List.mem_singleton.1 hy]; omega
          have NS' := Lib.hid NS
          have NL : Hid (sumN (l.take (k + 1)) ≤ P2) := by show _ ≤ _; rw [NS]; omega
          clear hst hs0 NS hbig
          generalize sumN (l.take k) = SK at *
          go_wp2_with fail
          go_roundw
          case rel => exact ⟨k + 1, by omega, by rw [NS'.out]; (congr 1; omega), by go_num, (by first | rfl | trivial), NG, NL⟩
          case measure => simp [intOf]; omega
    · have : k = m + 1 := by omega
      subst this
      have hT : l.take (m + 1) = l := List.take_of_length_le (by have := HN.out; omega)
      rw [hT] at hge hle ⊢
      have F := Lib.hid (HEE.out hge.out)
      have hkn : ¬ ((m : Int) + 1 < (m : Int) + 1) := by omega
      by_cases hq : sumN l = P2
      · have gq : (P2 - sumN l != 0) = false := by simp; omega
        rw [if_pos hq] at F
        clear hq hT
        generalize sumN l = SL at *
        go_wp2_with fail
        go_ret
        exact ⟨by rw [F.out]; rfl, k0⟩
      · have gq : (P2 - sumN l != 0) = true := by simp; omega
        rw [if_neg hq] at F
        clear hq hT
        generalize sumN l = SL at *
        go_wp2_with fail
        go_ret
        exact ⟨by rw [F.out]; rfl, k0⟩
end

section
set_option linter.unusedVariables false
set_option linter.unusedSimpArgs false
set_option linter.unusedSectionVars false

/-- The symbols of norm -1 among the first k, in order; those of greater norms, each as often as it has states. -/
def lowsK (norm : List Int) (k : Nat) : List Nat := (List.range k).filter (fun s => norm.getD s 0 == -1)
def othersK (norm : List Int) (k : Nat) : List Nat := (List.range k).flatMap fun s => List.replicate (norm.getD s 0).toNat s
theorem lowsK_all (norm : List Int) : lowsK norm norm.length = lowsL norm := rfl
theorem othersK_all (norm : List Int) : othersK norm norm.length = othersL norm := rfl
theorem getD_some {norm : List Int} {k : Nat} {x : Int} (h : norm[k]? = some x) : norm.getD k 0 = x := by
  rw [List.getD_eq_getElem?_getD, h]; rfl
theorem lowsK_yes {norm : List Int} {k : Nat} (h : norm[k]? = some (-1)) : lowsK norm (k + 1) = lowsK norm k ++ [k] := by
  have e := getD_some h
  simp only [lowsK, List.range_succ, List.filter_append, List.filter_cons, List.filter_nil, e]
  rfl
theorem lowsK_no {norm : List Int} {k : Nat} {x : Int} (h : norm[k]? = some x) (hx : x ≠ -1) : lowsK norm (k + 1) = lowsK norm k := by
  have e := getD_some h
  have e2 : (x == -1) = false := by simpa using hx
  simp only [lowsK, List.range_succ, List.filter_append, List.filter_cons, List.filter_nil, e, e2]
  simp
theorem othersK_next {norm : List Int} {k : Nat} {x : Int} (h : norm[k]? = some x) : othersK norm (k + 1) = othersK norm k ++ List.replicate x.toNat k := by
  have e := getD_some h
  simp only [othersK, List.range_succ, List.flatMap_append, List.flatMap_cons, List.flatMap_nil, List.append_nil, e]
theorem places_len {norm : List Int} (h : ∀ n ∈ norm, -1 ≤ n) : ∀ {k : Nat}, k ≤ norm.length → ((lowsK norm k).length : Int) + ((othersK norm k).length : Int) = sumN (norm.take k)
  | 0, _ => by simp [lowsK, othersK, sumN]
  | k + 1, hk => by
    obtain ⟨x, hx⟩ : ∃ x, norm[k]? = some x := ⟨_, List.getElem?_eq_getElem (by omega)⟩
    have ih := places_len h (k := k) (by omega)
    have h1 := h x (List.mem_of_getElem? hx)
    rw [sumN_take hx, othersK_next hx, List.length_append, List.length_replicate]
    by_cases hq : x = -1
    · subst hq
      rw [lowsK_yes hx, List.length_append, List.length_singleton, show stN (-1) = 1 from rfl]
      have : ((-1 : Int)).toNat = 0 := rfl
      omega
    · rw [lowsK_no hx hq, show stN x = x from if_neg hq]
      omega
theorem lowsK_lt {norm : List Int} {k s : Nat} (h : s ∈ lowsK norm k) : s < k := List.mem_range.1 (List.mem_filter.1 h).1
theorem othersK_lt {norm : List Int} {k s : Nat} (h : s ∈ othersK norm k) : s < k := by
  obtain ⟨i, hi, hs⟩ := List.mem_flatMap.1 h
  rw [(List.mem_replicate.1 hs).2]
  exact List.mem_range.1 hi
theorem lowsK_mono (norm : List Int) {k m : Nat} (h : k ≤ m) : (lowsK norm k).length ≤ (lowsK norm m).length := by
  induction m with
  | zero => obtain rfl : k = 0 := by omega
            exact Nat.le_refl _
  | succ m ih =>
    by_cases hk : k ≤ m
    · refine Nat.le_trans (ih hk) ?_
      simp only [lowsK, List.range_succ, List.filter_append, List.length_append]
      omega
    · obtain rfl : k = m + 1 := by omega
      exact Nat.le_refl _

/-- What stands at the places once the symbols of norm -1 are laid. -/
def hasA (S : Nat) (lows : List Nat) : Int → Option Int := fun p => if (S : Int) - (lows.length : Int) ≤ p ∧ p < (S : Int) then some ((lows.getD (S - 1 - p.toNat) 0 : Nat) : Int) else none
theorem hasA_nil (S : Nat) : hasA S [] = fun _ => none := by
  funext p
  unfold hasA
  rw [if_neg]
  simp
theorem hasA_snoc {S s : Nat} {lows : List Nat} (h : lows.length < S) : hasA S (lows ++ [s]) = updI (hasA S lows) ((S : Int) - 1 - (lows.length : Int)) (s : Int) := by
  funext p
  unfold updI hasA
  rw [List.length_append, List.length_singleton]
  by_cases h1 : p = (S : Int) - 1 - (lows.length : Int)
  · rw [if_pos h1, if_pos (by omega)]
    have e : S - 1 - p.toNat = lows.length := by omega
    rw [e, List.getD_eq_getElem?_getD, List.getElem?_append_right (Nat.le_refl _), Nat.sub_self]
    rfl
  · rw [if_neg h1]
    by_cases h2 : (S : Int) - (lows.length : Int) ≤ p ∧ p < (S : Int)
    · rw [if_pos h2, if_pos (by omega), List.getD_eq_getElem?_getD, List.getD_eq_getElem?_getD, List.getElem?_append_left (by omega)]
    · rw [if_neg h2, if_neg (by omega)]

/-- What stands there once the places fr hold the first of the others. -/
def hasB (S : Nat) (lows others fr : List Nat) : Int → Option Int := fun p => if 0 ≤ p ∧ p.toNat ∈ fr then some ((others.getD (fr.idxOf p.toNat) 0 : Nat) : Int) else hasA S lows p
theorem hasB_nil (S : Nat) (lows others : List Nat) : hasB S lows others [] = hasA S lows := by
  funext p
  unfold hasB
  rw [if_neg (by simp)]
theorem hasB_snoc {S p : Nat} {lows others fr : List Nat} (h : p ∉ fr) : hasB S lows others (fr ++ [p]) = updI (hasB S lows others fr) (p : Int) ((others.getD fr.length 0 : Nat) : Int) := by
  funext q
  unfold updI hasB
  by_cases h1 : q = (p : Int)
  · subst h1
    rw [if_pos rfl, if_pos (by simp), Int.toNat_natCast, show (fr ++ [p]).idxOf p = fr.length from by
      rw [List.idxOf_append, if_neg h]
      simp]
  · rw [if_neg h1]
    by_cases h2 : 0 ≤ q ∧ q.toNat ∈ fr
    · rw [if_pos h2, if_pos ⟨h2.1, List.mem_append.2 (.inl h2.2)⟩, show (fr ++ [p]).idxOf q.toNat = fr.idxOf q.toNat from by rw [List.idxOf_append, if_pos h2.2]]
    · rw [if_neg h2, if_neg]
      intro h3
      rcases List.mem_append.1 h3.2 with h4 | h4
      · exact h2 ⟨h3.1, h4⟩
      · have := List.mem_singleton.1 h4
        omega
theorem hasB_some_low {S p : Nat} {lows others fr : List Nat} (h1 : S - lows.length ≤ p) (h2 : p < S) (h3 : lows.length ≤ S) : (hasB S lows others fr (p : Int)).isSome = true := by
  unfold hasB
  split
  · rfl
  · unfold hasA
    rw [if_pos (by omega)]
    rfl
theorem hasB_some_mem {S p : Nat} {lows others fr : List Nat} (h : p ∈ fr) : (hasB S lows others fr (p : Int)).isSome = true := by
  unfold hasB
  rw [if_pos ⟨by omega, by simpa using h⟩]
  rfl
theorem hasB_none {S p : Nat} {lows others fr : List Nat} (h1 : p < S - lows.length) (h2 : p ∉ fr) : hasB S lows others fr (p : Int) = none := by
  unfold hasB
  rw [if_neg (by rintro ⟨-, h⟩; exact h2 (by simpa using h))]
  unfold hasA
  rw [if_neg (by omega)]

theorem mem_free {s top k p : Nat} : p ∈ freeN s top k ↔ (∃ j, j < k ∧ visitN s j = p) ∧ p < top := by
  unfold freeN
  rw [List.mem_filter, List.mem_map]
  simp only [List.mem_range, decide_eq_true_eq]
/-- The place of visit k is not among the free ones ahead of it. -/
theorem visit_fresh {g top k : Nat} (h : g ≤ 9) (hk : k < 2 ^ g) : visitN (2 ^ g) k ∉ freeN (2 ^ g) top k := fun hm => by
  obtain ⟨⟨j, hj, e⟩, -⟩ := mem_free.1 hm
  have := visit_inj h (by omega) hk e
  omega
theorem free_prefix {s top k m : Nat} (h : k ≤ m) : freeN s top k <+: freeN s top m := by
  obtain ⟨d, rfl⟩ := Nat.exists_eq_add_of_le h
  induction d with
  | zero => exact List.prefix_refl _
  | succ d ih =>
    refine (ih (by omega)).trans ?_
    by_cases hv : visitN s (k + d) < top
    · rw [← Nat.add_assoc, free_succ_yes hv]
      exact List.prefix_append _ _
    · rw [← Nat.add_assoc, free_succ_no hv]
      exact List.prefix_refl _
/-- As long as a free place comes up, not all are filled. -/
theorem free_room {g top k : Nat} (h : g ≤ 9) (ht : top ≤ 2 ^ g) (hk : k < 2 ^ g) (hv : visitN (2 ^ g) k < top) : (freeN (2 ^ g) top k).length < top := by
  have h1 := (free_prefix (s := 2 ^ g) (top := top) (k := k + 1) (m := 2 ^ g) hk).length_le
  rw [free_succ_yes hv, List.length_append, List.length_singleton, free_len h ht] at h1
  omega
theorem free_all {g top p : Nat} (h : g ≤ 9) (hp : p < top) (ht : top ≤ 2 ^ g) : p ∈ freeN (2 ^ g) top (2 ^ g) := by
  obtain ⟨j, h1, h2⟩ := visit_all h (show p < 2 ^ g by omega)
  exact mem_free.2 ⟨⟨j, h1, h2⟩, hp⟩
/-- In the end the places hold what placeN says. -/
theorem hasB_end {g p : Nat} {norm : List Int} (h : g ≤ 9) (hp : p < 2 ^ g) (hl : (lowsL norm).length ≤ 2 ^ g) :
    hasB (2 ^ g) (lowsL norm) (othersL norm) (freeN (2 ^ g) (2 ^ g - (lowsL norm).length) (2 ^ g)) (p : Int) = some ((placeN g norm p : Nat) : Int) := by
  unfold hasB placeN
  by_cases h1 : 2 ^ g - (lowsL norm).length ≤ p
  · rw [if_pos h1, if_neg]
    · unfold hasA
      rw [if_pos (by have : ((2 ^ g : Nat) : Int) = (2 ^ g : Nat) := rfl; omega)]
      simp
    · rintro ⟨-, hm⟩
      have := (mem_free.1 hm).2
      simp at this
      omega
  · rw [if_neg h1, if_pos]
    · simp
    · exact ⟨by omega, by simpa using free_all h (by omega) (by omega)⟩
theorem placesL_get {g p : Nat} {norm : List Int} (hp : p < 2 ^ g) : (placesL g norm)[p]? = some (placeN g norm p) := by
  simp [placesL, hp]
theorem placesL_len (g : Nat) (norm : List Int) : (placesL g norm).length = 2 ^ g := by simp [placesL]
/-- A place's symbol has a norm. -/
theorem placeN_lt {g p : Nat} {norm : List Int} (h : g ≤ 9) (hn : 0 < norm.length) : placeN g norm p < norm.length := by
  unfold placeN
  have hget : ∀ (L : List Nat) (j : Nat), (∀ s ∈ L, s < norm.length) → L.getD j 0 < norm.length := fun L j hL => by
    rw [List.getD_eq_getElem?_getD]
    cases hj : L[j]? with
    | none => exact hn
    | some s => exact hL s (List.mem_of_getElem? hj)
  split
  · exact hget _ _ (fun s hs => lowsK_lt (norm := norm) hs)
  · exact hget _ _ (fun s hs => othersK_lt (norm := norm) hs)
end

section
set_option linter.unusedVariables false
set_option linter.unusedSimpArgs false
set_option linter.unusedSectionVars false
open Go.RowKit Go.ChangeMaps Go.MapKept Go.Maps

/-- As MapI, and n entries are there. -/
def MapZ (w : World) (b n : Nat) (f : Int → Option Int) : Prop :=
  ∃ D : DataW Unit, w.ownsMap Tryz.prog 3 (plainElem Tryz.prog 3) b n D ∧
    (∀ q kl, IkWf q → keyOf Tryz.prog 3 (ikey q) = some kl → Maps.has D kl = (f q).isSome ∧ D.atKey kl (.lit (.int .i64 0)) = .lit (.int .i64 ((f q).getD 0))) ∧ Maps.size D = n
section
variable {w w' : World} {b n : Nat} {f : Int → Option Int} {q : Int}
theorem MapZ.toI (h : MapZ w b n f) : MapI w b n f := by obtain ⟨D, h1, h2, -⟩ := h; exact ⟨D, h1, h2⟩
theorem MapZ.made (w : World) : MapZ (w.alloc (.map #[] 0)) w.heap.size 0 (fun _ => none) :=
  ⟨_, World.ownsMap_made w _ _ _, (fun q kl _ _ => ⟨rfl, rfl⟩), rfl⟩
theorem MapZ.keeps {S : List Nat} (h : MapZ w b n f) (k : Keeps w w' S) (hn : b ∉ S) : MapZ w' b n f := by
  obtain ⟨D, ⟨es, clock, hb, r⟩, h2⟩ := h
  exact ⟨D, ⟨es, clock, (k.block b (Array.getElem?_eq_some_iff.1 hb).1 hn).trans hb, r⟩, h2⟩
theorem MapZ.len (h : MapZ w b n f) (ty : TypeId) : (Builtin.len_ #[171] ty #[.map (some b)]).run Tryz.prog w = .ok (.int .i64 (n : Int)) w := by
  obtain ⟨D, h1, -, h3⟩ := h
  rw [h1.len Tryz.underlying171 ty, h3]
theorem MapZ.update (h : MapZ w b n f) (hq : IkWf q) (v : Int) (hv : (Lit.int .i64 v).wf = true) (hn : n < maxLen) (hf : f q = none) :
    ∃ w', (Instr.mapUpdate 171 (.map (some b)) (ikey q) (.int .i64 v)).run Tryz.prog w = .ok () w' ∧ MapZ w' b (n + 1) (updI f q v) ∧ w.grownBy w' (some b) := by
  obtain ⟨D, h, h2, h3⟩ := h
  obtain ⟨kl, hk⟩ := ikey_lit hq
  obtain ⟨w', hr, ho, hg⟩ := h.update (t := 171) Tryz.ikeyed Tryz.underlying171 hn hk (plainElem_int Tryz.underlying3 hv)
  have hI := MapI.of_put ho hq hk h.isMap h2
  refine ⟨w', hr, ⟨_, ho, ?_, ?_⟩, hg⟩
  · obtain ⟨D', ho', h2'⟩ := hI
    intro r rl hr hrl
    by_cases e : r = q
    · subst e
      rw [hk] at hrl
      cases hrl
      have hkl := Tryz.ikeyed.key hk
      rw [Maps.has_put_same h.isMap hkl, Maps.atKey_put_same h.isMap hkl]
      simp [updI]
    · have hne : rl ≠ kl := fun e2 => by
        subst e2
        exact e (ikey_inj (Tryz.ikeyed.inj hrl hk))
      rw [Maps.has_put_other hne, Maps.atKey_put_other hne]
      simp only [updI, if_neg e]
      exact h2 r rl hr hrl
  · rw [size_put (h.tidy Tryz.ikeyed), (h2 q kl hq hk).1, hf, h3]
    rfl
end
/-- Small numbers are keys. -/
theorem ik_small {q : Int} (h0 : -1000000 ≤ q) (h1 : q ≤ 1000000) : IkWf q := by
  show (Lit.int .i64 q).wf = true
  simp [Lit.wf, IntKind.min, IntKind.max, IntKind.signed, IntKind.bits]
  omega
end

end Go.Proofs.YtophgpnnjphnmaaGreat
