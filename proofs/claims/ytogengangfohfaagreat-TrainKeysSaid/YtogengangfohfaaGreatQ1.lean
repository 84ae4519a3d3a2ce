/-
  Words for memory, used by all walks of the seat: a block that holds just these cells; which of the old blocks a call may change. No program is in sight here.
  The step from a walk to a law's row, once for all laws of the seat: whoever shows that the call returns true and changes nothing that lay in memory before, has the row's contract.
  Slices of numbers in memory: what a slice value reads as; what keeps it; how an argument opens. No program is in sight here.
  Walks over package train: is, must, the deferred function.
-/
import Derived.WalkKit
import Derived.WalkSpells
import Derived.WalkLawsBesides
import Derived.Lib.Hide
import Derived.Defers
import Derived.Recover
import Derived.StillTailTactics
import Derived.Deep.QuietTactic
import Derived.BigQuiet
import Derived.Carry
import Derived.Test.YtogengangfohfaaGreatRows
import Derived.ProofKit
import Derived.Deep.Slices
import Derived.OpenShut
import Derived.OwnWalk
import Derived.Laws.AppendOwnNone
namespace Go.Proofs.YtogengangfohfaaGreat
section
set_option linter.unusedVariables false
set_option linter.unusedSimpArgs false
set_option linter.unusedSectionVars false
open Go.RowKit

/-- What lies below a heap's size lies below a grown heap's size: as the walk asks it. -/
@[go_sem] theorem past_lt2 {a b : Nat} (h : a < b) : a < b + 1 + 1 := by omega
@[go_sem] theorem past_lt3 {a b : Nat} (h : a < b) : a < b + 1 + 1 + 1 := by omega
@[go_sem] theorem past_lt4 {a b : Nat} (h : a < b) : a < b + 1 + 1 + 1 + 1 := by omega
@[go_sem] theorem past_lt5 {a b : Nat} (h : a < b) : a < b + 1 + 1 + 1 + 1 + 1 := by omega
@[go_sem] theorem past_lt6 {a b : Nat} (h : a < b) : a < b + 1 + 1 + 1 + 1 + 1 + 1 := by omega
@[go_sem] theorem past_lt7 {a b : Nat} (h : a < b) : a < b + 1 + 1 + 1 + 1 + 1 + 1 + 1 := by omega
@[go_sem] theorem past_lt8 {a b : Nat} (h : a < b) : a < b + 1 + 1 + 1 + 1 + 1 + 1 + 1 + 1 := by omega
@[go_sem] theorem past_lt9 {a b : Nat} (h : a < b) : a < b + 1 + 1 + 1 + 1 + 1 + 1 + 1 + 1 + 1 := by omega
@[go_sem] theorem past_lt10 {a b : Nat} (h : a < b) : a < b + 1 + 1 + 1 + 1 + 1 + 1 + 1 + 1 + 1 + 1 := by omega
@[go_sem] theorem past_lt11 {a b : Nat} (h : a < b) : a < b + 1 + 1 + 1 + 1 + 1 + 1 + 1 + 1 + 1 + 1 + 1 := by omega
@[go_sem] theorem past_lt12 {a b : Nat} (h : a < b) : a < b + 1 + 1 + 1 + 1 + 1 + 1 + 1 + 1 + 1 + 1 + 1 + 1 := by omega
@[go_sem] theorem past_ne0 {a b : Nat} (h : a < b) : (a = b) = False := eq_false (by omega)
@[go_sem] theorem past_en0 {a b : Nat} (h : a < b) : (b = a) = False := eq_false (by omega)
@[go_sem] theorem past_ne1 {a b : Nat} (h : a < b) : (a = b + 1) = False := eq_false (by omega)
@[go_sem] theorem past_en1 {a b : Nat} (h : a < b) : (b + 1 = a) = False := eq_false (by omega)
@[go_sem] theorem past_ne2 {a b : Nat} (h : a < b) : (a = b + 1 + 1) = False := eq_false (by omega)
@[go_sem] theorem past_en2 {a b : Nat} (h : a < b) : (b + 1 + 1 = a) = False := eq_false (by omega)
@[go_sem] theorem past_ne3 {a b : Nat} (h : a < b) : (a = b + 1 + 1 + 1) = False := eq_false (by omega)
@[go_sem] theorem past_en3 {a b : Nat} (h : a < b) : (b + 1 + 1 + 1 = a) = False := eq_false (by omega)
@[go_sem] theorem past_ne4 {a b : Nat} (h : a < b) : (a = b + 1 + 1 + 1 + 1) = False := eq_false (by omega)
@[go_sem] theorem past_en4 {a b : Nat} (h : a < b) : (b + 1 + 1 + 1 + 1 = a) = False := eq_false (by omega)
@[go_sem] theorem past_ne5 {a b : Nat} (h : a < b) : (a = b + 1 + 1 + 1 + 1 + 1) = False := eq_false (by omega)
@[go_sem] theorem past_en5 {a b : Nat} (h : a < b) : (b + 1 + 1 + 1 + 1 + 1 = a) = False := eq_false (by omega)
@[go_sem] theorem past_ne6 {a b : Nat} (h : a < b) : (a = b + 1 + 1 + 1 + 1 + 1 + 1) = False := eq_false (by omega)
@[go_sem] theorem past_en6 {a b : Nat} (h : a < b) : (b + 1 + 1 + 1 + 1 + 1 + 1 = a) = False := eq_false (by omega)
@[go_sem] theorem past_ne7 {a b : Nat} (h : a < b) : (a = b + 1 + 1 + 1 + 1 + 1 + 1 + 1) = False := eq_false (by omega)
@[go_sem] theorem past_en7 {a b : Nat} (h : a < b) : (b + 1 + 1 + 1 + 1 + 1 + 1 + 1 = a) = False := eq_false (by omega)
@[go_sem] theorem past_ne8 {a b : Nat} (h : a < b) : (a = b + 1 + 1 + 1 + 1 + 1 + 1 + 1 + 1) = False := eq_false (by omega)
@[go_sem] theorem past_en8 {a b : Nat} (h : a < b) : (b + 1 + 1 + 1 + 1 + 1 + 1 + 1 + 1 = a) = False := eq_false (by omega)
@[go_sem] theorem past_ne9 {a b : Nat} (h : a < b) : (a = b + 1 + 1 + 1 + 1 + 1 + 1 + 1 + 1 + 1) = False := eq_false (by omega)
@[go_sem] theorem past_en9 {a b : Nat} (h : a < b) : (b + 1 + 1 + 1 + 1 + 1 + 1 + 1 + 1 + 1 = a) = False := eq_false (by omega)
@[go_sem] theorem past_ne10 {a b : Nat} (h : a < b) : (a = b + 1 + 1 + 1 + 1 + 1 + 1 + 1 + 1 + 1 + 1) = False := eq_false (by omega)
@[go_sem] theorem past_en10 {a b : Nat} (h : a < b) : (b + 1 + 1 + 1 + 1 + 1 + 1 + 1 + 1 + 1 + 1 = a) = False := eq_false (by omega)
@[go_sem] theorem past_ne11 {a b : Nat} (h : a < b) : (a = b + 1 + 1 + 1 + 1 + 1 + 1 + 1 + 1 + 1 + 1 + 1) = False := eq_false (by omega)
@[go_sem] theorem past_en11 {a b : Nat} (h : a < b) : (b + 1 + 1 + 1 + 1 + 1 + 1 + 1 + 1 + 1 + 1 + 1 = a) = False := eq_false (by omega)
@[go_sem] theorem past_ne12 {a b : Nat} (h : a < b) : (a = b + 1 + 1 + 1 + 1 + 1 + 1 + 1 + 1 + 1 + 1 + 1 + 1) = False := eq_false (by omega)
@[go_sem] theorem past_en12 {a b : Nat} (h : a < b) : (b + 1 + 1 + 1 + 1 + 1 + 1 + 1 + 1 + 1 + 1 + 1 + 1 = a) = False := eq_false (by omega)

/-- Block b holds the cells cs, none of them frozen. -/
def Blk (w : World) (b : Nat) (cs : Array Value) (T : TypeId) : Prop := w.heap[b]? = some (.cells cs T (0, 0))

/-- Of the old blocks only those of S may have changed. -/
structure Keeps (w w' : World) (S : List Nat) : Prop where
  os : w'.os = w.os
  tape : w'.tape = w.tape
  output : w'.output = w.output
  size : w.heap.size ≤ w'.heap.size
  block : ∀ k, k < w.heap.size → k ∉ S → w'.heap[k]? = w.heap[k]?

section
variable {w w' w'' : World} {S S' : List Nat} {b : Nat} {cs : Array Value} {T : TypeId}

theorem Keeps.refl (w : World) (S : List Nat) : Keeps w w S := ⟨rfl, rfl, rfl, Nat.le_refl _, fun _ _ _ => rfl⟩
theorem Keeps.trans (h : Keeps w w' S) (k : Keeps w' w'' S') (hs : ∀ x ∈ S', x < w.heap.size → x ∈ S) : Keeps w w'' S :=
  ⟨k.os.trans h.os, k.tape.trans h.tape, k.output.trans h.output, Nat.le_trans h.size k.size,
    fun x hx hn => (k.block x (Nat.lt_of_lt_of_le hx h.size) (fun hm => hn (hs x hm hx))).trans (h.block x hx hn)⟩
theorem Keeps.then (h : Keeps w w' S) (k : Keeps w' w'' []) : Keeps w w'' S := h.trans k (fun _ h => by cases h)
theorem Keeps.mono (h : Keeps w w' S) (hs : ∀ x ∈ S, x ∈ S') : Keeps w w' S' := ⟨h.os, h.tape, h.output, h.size, fun k hk hn => h.block k hk (fun hm => hn (hs k hm))⟩
theorem Keeps.alloc (h : Keeps w w' S) (o : Obj) : Keeps w (w'.alloc o) S :=
  ⟨h.os, h.tape, h.output, by have := h.size; simp; omega, fun k hk hn => by
    rw [Below.heap_alloc _ _ _ (Nat.lt_of_lt_of_le hk h.size)]; exact h.block k hk hn⟩
theorem Keeps.drew (h : Keeps w w' S) : Keeps w w'.drew S := ⟨h.os, h.tape, h.output, h.size, h.block⟩
theorem Keeps.drewN (h : Keeps w w' S) (n : Nat) : Keeps w (w'.drewN n) S := ⟨h.os, h.tape, h.output, h.size, h.block⟩
theorem Keeps.setCell (h : Keeps w w' S) {a : Addr} (ha : w.heap.size ≤ a.block ∨ a.block ∈ S) (v : Value) : Keeps w (w'.setCell a v) S :=
  ⟨h.os, h.tape, h.output, by have := h.size; simp; omega, fun k hk hn => by
    rw [Below.heap_setCell _ _ _ _ (by intro e; subst e; rcases ha with ha | ha; omega; exact hn ha)]; exact h.block k hk hn⟩
theorem Keeps.below (h : Keeps w w' []) : Below w.heap.size w w' := ⟨h.os, h.tape, h.output, h.size, fun k hk => h.block k hk (by simp)⟩
theorem Keeps.of_below (h : Below w.heap.size w w') : Keeps w w' [] := ⟨h.os, h.tape, h.output, h.size, fun k hk _ => h.block k hk⟩
theorem Keeps.of_grown {row : Option Nat} (h : w.grownBy w' row) (hs : ∀ k, row = some k → k ∈ S) : Keeps w w' S :=
  ⟨h.os, h.tape, h.output, h.size, fun k hk hn => h.block k hk (fun e => hn (hs k e.symm))⟩
theorem Keeps.cell (h : Keeps w w' S) {p : Addr} (hp : p.block < w.heap.size) (hn : p.block ∉ S) : w'.cell? p = w.cell? p := World.cell?_of_block (w := w) (h.block p.block hp hn)
theorem Keeps.frozen (h : Keeps w w' S) {p : Addr} (hp : p.block < w.heap.size) (hn : p.block ∉ S) : w'.frozen? p = w.frozen? p := World.frozen?_of_block (w := w) (h.block p.block hp hn)

theorem Blk.cell (h : Blk w b cs T) (i : Nat) : w.cell? ⟨b, i, none⟩ = cs[i]? := cell_of_row w b i cs T (0, 0) h
theorem Blk.frozen (h : Blk w b cs T) (i : Nat) : w.frozen? ⟨b, i, none⟩ = false := by
  have h' : w.heap[b]? = some (.cells cs T (0, 0)) := h
  simp [World.frozen?, h']
theorem Blk.lt (h : Blk w b cs T) : b < w.heap.size := (Array.getElem?_eq_some_iff.1 h).1
theorem Blk.keeps (h : Blk w b cs T) (k : Keeps w w' S) (hn : b ∉ S) : Blk w' b cs T := (k.block b h.lt hn).trans h
theorem Blk.alloc (h : Blk w b cs T) (o : Obj) : Blk (w.alloc o) b cs T := h.keeps ((Keeps.refl w []).alloc o) (by simp)
theorem Blk.drew (h : Blk w b cs T) : Blk w.drew b cs T := h
theorem Blk.drewN (h : Blk w b cs T) (n : Nat) : Blk (w.drewN n) b cs T := h
theorem Blk.new (w : World) (cs : Array Value) (T : TypeId) : Blk (w.alloc (.cells cs T)) w.heap.size cs T := heap_alloc_new w _
theorem Blk.set (h : Blk w b cs T) (i : Nat) (v : Value) : Blk (w.setCell ⟨b, i, none⟩ v) b (cs.setIfInBounds i v) T := by
  have h' : w.heap[b]? = some (.cells cs T (0, 0)) := h
  unfold Blk World.setCell
  simp [Array.getElem?_modify, h']
theorem Blk.setOther (h : Blk w b cs T) {a : Addr} (hn : a.block ≠ b) (v : Value) : Blk (w.setCell a v) b cs T := by
  have h' : w.heap[b]? = some (.cells cs T (0, 0)) := h
  unfold Blk
  rw [Below.heap_setCell _ _ _ _ (fun e => hn e.symm)]
  exact h'
theorem Blk.ne_new (h : Blk w b cs T) : b ≠ w.heap.size := Nat.ne_of_lt h.lt
end

/-- What a block holds behind a store, a new block, a draw: for simp. -/
theorem heap_setCell_at (w : World) (a : Addr) (v : Value) (k : Nat) : (w.setCell a v).heap[k]? = if a.block = k then (w.heap[k]?).map (fun
    | .cells c elem frozen => .cells (if a.spot.isSome then c else c.setIfInBounds a.off v) elem frozen
    | o => o) else w.heap[k]? := by
  simp only [World.setCell, Array.getElem?_modify]
  split <;> rfl
theorem heap_drew_at (w : World) : w.drew.heap = w.heap := rfl
theorem heap_alloc_at (w : World) (o : Obj) (k : Nat) : (w.alloc o).heap[k]? = if k = w.heap.size then some o else w.heap[k]? := by
  show (w.heap.push o)[k]? = _
  rw [Array.getElem?_push]
theorem Keeps.setCell' {w w' : World} {S : List Nat} {a : Addr} {v : Value} (ha : w.heap.size ≤ a.block ∨ a.block ∈ S) (h : Keeps w w' S) : Keeps w (w'.setCell a v) S := h.setCell ha v

/-- The first three cells of a block, as the walk takes them. -/
theorem Blk.three {w : World} {b : Nat} {x y z : Value} {T : TypeId} (h : Blk w b #[x, y, z] T) :
    w.cell? ⟨b, 0, none⟩ = some x ∧ w.cell? ⟨b, 1, none⟩ = some y ∧ w.cell? ⟨b, 2, none⟩ = some z ∧
    w.frozen? ⟨b, 0, none⟩ = false ∧ w.frozen? ⟨b, 1, none⟩ = false ∧ w.frozen? ⟨b, 2, none⟩ = false :=
  ⟨h.cell 0, h.cell 1, h.cell 2, h.frozen 0, h.frozen 1, h.frozen 2⟩
theorem Blk.one {w : World} {b : Nat} {x : Value} {T : TypeId} (h : Blk w b #[x] T) : w.cell? ⟨b, 0, none⟩ = some x ∧ w.frozen? ⟨b, 0, none⟩ = false := ⟨h.cell 0, h.frozen 0⟩

theorem ret_int {k : IntKind} {a b : Int} (h : a = b) : Ending.returned (.int k a) = .returned (.int k b) := by rw [h]
theorem ret_bool {a b : Bool} (h : a = b) : Ending.returned (.bool a) = .returned (.bool b) := by rw [h]
end

section
set_option linter.unusedVariables false
set_option linter.unusedSimpArgs false
set_option linter.unusedSectionVars false
open Go.ChangeShapes Go.WideShapes Go.ChangeAt Go.RowKit

theorem Tryz.own : ownKnob Tryz.prog.godebug = none := by kernel_rfl
theorem Tryz.laidOut : laidOutB Tryz.prog = true := by kernel_rfl

theorem trodAll_grown {H : Type} {enc : TypeId × Value → H} {P : Program} (hl : laidOutB P = true) {W W' : World} (hb : Below W.heap.size W W') (sp : Nat → Bool) :
    ∀ {ts : List TypeId} {vs : List Value} {ds : List (DataW H)} {ps : List MemPlace}, (∀ t ∈ ts, P.readableRec t = true ∧ t < P.types.size) →
      DataW.TrodAll enc P W 0 (fun _ => true) true ts vs ds ps → (∀ x ∈ ps, x.block < W.heap.size) → (∀ x ∈ ps, sp x.block = true) → DataW.TrodAll enc P W' 0 sp true ts vs ds ps
  | [], [], [], _, _, h, _, _ => h
  | t :: ts, v :: vs, d :: ds, ps, ht, h, hlt, hs => by
    obtain ⟨p, q, h1, h2, rfl⟩ := h
    refine ⟨p, q, ?_, ?_, rfl⟩
    · exact WideElems.Trod_stays hl (ht t (by simp)).1 (ht t (by simp)).2 h1 (fun x hx => hb.same (hlt x (by simp [hx]))) (fun x hx => hs x (by simp [hx]))
    · exact trodAll_grown hl hb sp (fun t' h' => ht t' (by simp [h'])) h2 (fun x hx => hlt x (by simp [hx])) (fun x hx => hs x (by simp [hx]))
  | [], [], _ :: _, _, _, h, _, _ => by cases h
  | [], _ :: _, _, _, _, h, _, _ => by cases h
  | _ :: _, [], _, _, _, h, _, _ => by cases h
  | _ :: _, _ :: _, [], _, _, h, _, _ => by cases h

theorem trodAll_count {H : Type} {enc : TypeId × Value → H} {P : Program} {W : World} {sp : Nat → Bool} :
    ∀ {ts : List TypeId} {vs : List Value} {ds : List (DataW H)} {ps : List MemPlace}, DataW.TrodAll enc P W 0 sp true ts vs ds ps → ds.length = ts.length
  | [], [], [], _, _ => rfl
  | t :: ts, v :: vs, d :: ds, ps, h => by obtain ⟨p, q, _, h2, _⟩ := h; simp [trodAll_count h2]
  | [], [], _ :: _, _, h => by cases h
  | [], _ :: _, _, _, h => by cases h
  | _ :: _, [], _, _, h => by cases h
  | _ :: _, _ :: _, [], _, h => by cases h

/-- What a law's walk shows. -/
def LawEnd (W : World) (e : Ending) (W' : World) : Prop := e = .returned (.bool true) ∧ Below W.heap.size W W'

theorem law_post {H : Type} {enc : TypeId × Value → H} {P : Program} {fn : Func} {s : ChangeSpec} (hl : laidOutB P = true) (hv : s.vars = [])
    (hs : ∀ ds : List (DataW H), ds.length = fn.params.toList.length → s.fn H ds = { results := [.lit (.bool true)], args := ds })
    (hr : ∀ t ∈ fn.params.toList, P.readableRec t = true ∧ t < P.types.size) {tb : TypeId} (hres : fn.resultTypes = #[tb]) (hb : P.underlying tb = some .bool)
    {W W' : World} {args : Array Value} {ds gs : List (DataW H)} {before : List MemPlace} (hW : DataW.Whole enc P fn.params.toList s.vars false W args.toList ds gs before)
    (hB : Below W.heap.size W W') : s.post enc P fn false true false false W args (.bool true) W' := by
  have hlt := hW.lt
  have hW0 := hW
  obtain ⟨p, q, hA, hV, rfl, hz, hn⟩ := hW
  rw [hv] at hV
  have hg : gs = [] ∧ q = [] := by
    cases gs with
    | nil => exact ⟨rfl, hV⟩
    | cons a b => cases hV
  obtain ⟨rfl, rfl⟩ := hg
  have e1 : s.fn H (ds ++ []) = { results := [.lit (.bool true)], args := ds } := by rw [List.append_nil]; exact hs ds (trodAll_count hA)
  refine ⟨ds, [], p ++ [], [], p, [], hW0, ?_, ?_, ?_, ?_, fun h => by cases h⟩
  · rw [e1, hres]
    exact trodAll_mk1 (shut_bool hb _)
  · rw [e1]
    exact trodAll_grown hl hB _ hr hA (fun x hx => hlt x (by simp [hx])) (fun x hx => by simpa using hlt x (by simp [hx]))
  · rw [e1, hv]
    exact rfl
  · exact hB.frame _

theorem law_contract {H : Type} {enc : TypeId × Value → H} {C : Checked} {f : FuncId} {fn : Func} {s : ChangeSpec} {conds : List PathCond} {a : Assume} (hl : laidOutB C.prog = true) (hv : s.vars = [])
    (hs : ∀ ds : List (DataW H), ds.length = fn.params.toList.length → s.fn H ds = { results := [.lit (.bool true)], args := ds })
    (hr : ∀ t ∈ fn.params.toList, C.prog.readableRec t = true ∧ t < C.prog.types.size) {tb : TypeId} (hres : fn.resultTypes = #[tb]) (hb : C.prog.underlying tb = some .bool)
    (walk : ∀ (W : World) (base : Nat) (args : Array Value) (ds : List (DataW H)) (ps : List MemPlace),
      (∀ (j : Nat) t v, fn.params[j]? = some t → args[j]? = some v → Value.okWide C.prog W .any base t v) →
      DataW.TrodAll enc C.prog W 0 (fun _ => true) true fn.params.toList args.toList ds ps → (∀ x ∈ ps, x.block < W.heap.size) → W.noneFrozen ps →
      Calls C.prog f args W (LawEnd W)) :
    ∀ (W : World) (base : Nat) (args : Array Value) (ds gs : List (DataW H)) (before : List MemPlace),
      (∀ (j : Nat) t v, fn.params[j]? = some t → args[j]? = some v → Value.okWide C.prog W .any base t v) →
      DataW.Whole enc C.prog fn.params.toList s.vars false W args.toList ds gs before →
      conds.all (PathCond.test C.prog ⟨fn.params.toList, ds, s.plain.varTypes C.prog, gs⟩) = true →
      a.holds C.prog (lone (Frame.enter C.prog f args .normal) [] W) →
      Calls C.prog f args W fun e W' => ∃ v, e = .returned v ∧ s.post enc C.prog fn false true false false W args v W' := by
  intro W base args ds gs before hval hW _ _
  have hlt := hW.lt
  have hW0 := hW
  obtain ⟨p, q, hA, hV, rfl, hz, hn⟩ := hW
  refine (walk W base args ds p hval hA (fun x hx => hlt x (by simp [hx])) (fun b o h => hz b o (by simp [h]))).mono fun e W' h => ?_
  exact ⟨_, h.1, law_post hl hv hs hr hres hb hW0 h.2⟩
end

section
set_option linter.unusedVariables false
set_option linter.unusedSimpArgs false
set_option linter.unusedSectionVars false
open Go.ChangeShapes Go.WideShapes Go.ChangeAt Go.RowKit

/-- A slice value reads as a list of numbers of kind k. -/
structure RdI (k : IntKind) (w : World) (v : Value) (l : List Int) : Prop where
  form : ∃ a n cp, v = .slice a n cp ∧ n = l.length ∧ (a = none → n = 0 ∧ cp = 0) ∧ (0 < n → n ≤ cp ∧ ∃ b o, a = some ⟨b, o, none⟩ ∧ b < w.heap.size ∧ ∀ i x, l[i]? = some x → w.cell? ⟨b, o + i, none⟩ = some (.int k x))

section
variable {k : IntKind} {w w' : World} {v : Value} {l : List Int} {a : Option Addr} {n cp : Nat}

theorem RdI.nil : RdI k w (.slice none 0 0) [] := ⟨_, _, _, rfl, rfl, fun _ => ⟨rfl, rfl⟩, fun h => absurd h (by omega)⟩
theorem RdI.zero (a : Addr) (c : Nat) : RdI k w (.slice (some a) 0 c) [] := ⟨_, _, _, rfl, rfl, (fun h => by cases h), fun h => absurd h (by omega)⟩
theorem RdI.keeps (h : RdI k w v l) (kk : Keeps w w' []) : RdI k w' v l := by
  obtain ⟨a, n, cp, rfl, hn, h0, hc⟩ := h.form
  refine ⟨a, n, cp, rfl, hn, h0, fun hp => ?_⟩
  obtain ⟨h1, b, o, h2, h3, h4⟩ := hc hp
  exact ⟨h1, b, o, h2, Nat.lt_of_lt_of_le h3 kk.size, fun i x hx => (kk.cell h3 (by simp)).trans (h4 i x hx)⟩
theorem RdI.keepsS {S : List Nat} (h : RdI k w v l) (kk : Keeps w w' S) (hn : ∀ ad n cp, v = .slice (some ad) n cp → 0 < n → ad.block ∉ S) : RdI k w' v l := by
  obtain ⟨a, n, cp, rfl, hl, h0, hc⟩ := h.form
  refine ⟨a, n, cp, rfl, hl, h0, fun hp => ?_⟩
  obtain ⟨h1, b, o, rfl, h3, h4⟩ := hc hp
  exact ⟨h1, b, o, rfl, Nat.lt_of_lt_of_le h3 kk.size, fun i x hx => (kk.cell (p := ⟨b, o + i, none⟩) h3 (fun hm => hn _ _ _ rfl hp hm)).trans (h4 i x hx)⟩
theorem RdI.len (h : RdI k w (.slice a n cp) l) : n = l.length := by
  obtain ⟨a', n', cp', he, hl, -⟩ := h.form
  obtain ⟨h1, h2, h3⟩ := Value.slice.inj he
  rw [h2, hl]
theorem RdI.cap (h : RdI k w (.slice a n cp) l) : n ≤ cp := by
  obtain ⟨a', n', cp', he, hl, h0, hc⟩ := h.form
  obtain ⟨h1, h2, h3⟩ := Value.slice.inj he
  subst h1 h2 h3
  by_cases hp : 0 < n
  · exact (hc hp).1
  · omega
theorem RdI.nilcap (h : RdI k w (.slice none n cp) l) : n = 0 ∧ cp = 0 ∧ l = [] := by
  obtain ⟨a', n', cp', he, hl, h0, hc⟩ := h.form
  obtain ⟨h1, h2, h3⟩ := Value.slice.inj he
  subst h1 h2 h3
  obtain ⟨e1, e2⟩ := h0 rfl
  exact ⟨e1, e2, List.eq_nil_of_length_eq_zero (by omega)⟩
/-- The cell of element i. -/
theorem RdI.at (h : RdI k w (.slice a n cp) l) {i : Nat} {x : Int} (hx : l[i]? = some x) : ∃ b o, a = some ⟨b, o, none⟩ ∧ b < w.heap.size ∧ w.cell? ⟨b, o + i, none⟩ = some (.int k x) := by
  obtain ⟨a', n', cp', he, hl, h0, hc⟩ := h.form
  obtain ⟨h1, h2, h3⟩ := Value.slice.inj he
  subst h1 h2 h3
  have hlt := (List.getElem?_eq_some_iff.1 hx).1
  obtain ⟨_, b, o, h2, h3, h4⟩ := hc (by omega)
  exact ⟨b, o, h2, h3, h4 i x hx⟩
theorem RdI.addr (h : RdI k w (.slice a n cp) l) (hp : 0 < n) : ∃ b o, a = some ⟨b, o, none⟩ ∧ b < w.heap.size ∧ ∀ i x, l[i]? = some x → w.cell? ⟨b, o + i, none⟩ = some (.int k x) := by
  obtain ⟨a', n', cp', he, hl, h0, hc⟩ := h.form
  obtain ⟨h1, h2, h3⟩ := Value.slice.inj he
  subst h1 h2 h3
  exact (hc hp).2
theorem RdI.drewN (h : RdI k w v l) (m : Nat) : RdI k (w.drewN m) v l := h.keeps ((Keeps.refl w []).drewN m)

theorem own_form {base : Nat} {e : TypeId} {size : Nat} {xs : List Value} (h : w.ownsRow base e size v n xs) : ∃ ad cp, v = .slice ad n cp := by
  rcases h.2 with ⟨rfl, rfl⟩ | ⟨g, cp, cur, rfl, -⟩
  · exact ⟨_, _, rfl⟩
  · exact ⟨_, _, rfl⟩
theorem own_keeps {base : Nat} {e : TypeId} {size : Nat} {xs : List Value} (h : w.ownsRow base e size v n xs) (kk : Keeps w w' []) : w'.ownsRow base e size v n xs :=
  h.kept (row := none) ⟨kk.os, kk.tape, kk.output, kk.size, fun i hi _ => kk.block i hi (by simp)⟩ (by cases hv : v.ownBlock <;> simp)
theorem own_setCell {base : Nat} {e : TypeId} {size : Nat} {xs : List Value} (h : w.ownsRow base e size v n xs) {a : Addr} (ha : v.ownBlock ≠ some a.block) (u : Value) : (w.setCell a u).ownsRow base e size v n xs :=
  h.kept (row := some a.block) ⟨rfl, rfl, rfl, by simp, fun k _ hk => Below.heap_setCell _ _ _ _ (fun he => hk (by rw [he]))⟩ (.inr ha)
theorem own_base {base base' : Nat} {e : TypeId} {size : Nat} {xs : List Value} (h : w.ownsRow base e size v n xs) (hb : base' ≤ base) : w.ownsRow base' e size v n xs := by
  obtain ⟨h1, h2⟩ := h
  refine ⟨h1, ?_⟩
  rcases h2 with h2 | ⟨g, cap, cur, rfl, hg, r⟩
  · exact .inl h2
  · exact .inr ⟨g, cap, cur, rfl, by omega, r⟩
/-- An owned row of numbers reads as their list. -/
theorem own_reads {base : Nat} {e : TypeId} (h : w.ownsRow base e 1 v l.length (l.map (.int k))) : RdI k w v l := by
  rcases h.2 with ⟨rfl, h0⟩ | ⟨g, cp, cur, rfl, hb, hg, hn, hm, hs, ht⟩
  · exact ⟨_, _, _, rfl, h0.symm, fun _ => ⟨rfl, rfl⟩, fun h => absurd h (by omega)⟩
  · refine ⟨_, _, _, rfl, rfl, (fun h => by cases h), fun h0 => ⟨hn, g, 0, rfl, (Array.getElem?_eq_some_iff.1 hg).1, fun i x hx => ?_⟩⟩
    have hlt := (List.getElem?_eq_some_iff.1 hx).1
    rw [Nat.zero_add, cell_of_row w g i cur e (0, 0) hg]
    have h1 : (cur.toList.take (l.length * 1))[i]? = (l.map (Value.int k))[i]? := by rw [ht]
    rw [List.getElem?_take, if_pos (by omega), List.getElem?_map, hx] at h1
    simpa using h1
/-- The cells of a slice of numbers, as append asks for them. -/
theorem RdI.news {ad : Addr} (h : RdI k w (.slice (some ad) n cp) l) : ∀ j u, (l.map (Value.int k))[j]? = some u → w.cell? (ad.add j) = some u := by
  intro j u hj
  rw [List.getElem?_map] at hj
  obtain ⟨x, hx, rfl⟩ := Option.map_eq_some_iff.1 hj
  obtain ⟨b, o, h2, h3, h4⟩ := h.at hx
  cases h2
  have : (⟨b, o, none⟩ : Addr).add j = ⟨b, o + j, none⟩ := by simp [Addr.add]
  rw [this]
  exact h4
end

theorem nums_one (k : IntKind) (l : List Int) : ∀ u ∈ l.map (Value.int k), u.oneCell' = true := by
  intro u hu
  obtain ⟨x, _, rfl⟩ := List.mem_map.1 hu
  simp [Value.oneCell']

theorem slice_cells {P : Program} {w : World} {t e : TypeId} {r : Reach} {b : Nat} {v : Value} (ht : P.underlying t = some (.slice e)) (h : Value.okWide P w r b t v) : v.cells.toList = [v] := by
  simp only [Value.okWide, ht, Cell.okWide] at h
  cases v <;> simp_all [Value.cells, Cell.ok]

/-- An argument that is a slice of numbers reads as a list. -/
theorem open_nums {H : Type} {enc : TypeId × Value → H} {P : Program} {w : World} {ts e : TypeId} {k : IntKind} {v : Value} {d : DataW H} {p : List MemPlace} (hts : P.underlying ts = some (.slice e)) (he : P.underlying e = some (.int k)) (hE : P.cellsOf e = 1)
    (hv : v.cells.toList = [v]) (h : DataW.Trod enc P w 0 (fun _ => true) true ts v d p) :
    ∃ l : List Int, RdI k w v l ∧ (∀ x ∈ l, (Lit.int k x).wf = true) := by
  obtain ⟨fuel, hf⟩ := h
  rw [hv] at hf
  rcases Go.Deep.open_slice1 hts hE hf with ⟨hcs, hx⟩ | ⟨a, len, cap, m, n, V, D, Pl, hcs, hb, hl, hm, hmm, hx, hel⟩
  · simp at hcs
    subst hcs
    exact ⟨[], .nil, by simp⟩
  · simp at hcs
    subst hcs
    have hmc : len ≤ m := by rw [hmm]; simp; exact hl
    have hread : ∀ i, i < len → ∃ x : Int, w.cell? (a.add i) = some (.int k x) ∧ (Lit.int k x).wf = true := by
      intro i hi
      obtain ⟨hc', ht'⟩ := hel i (by omega)
      obtain ⟨x, ex, _, wx⟩ := DataW.trod_int he ht'
      simp at ex
      exact ⟨x, by rw [hc', ex], wx⟩
    have hlist : ∀ j, j ≤ len → ∃ l : List Int, l.length = j ∧ (∀ i x, l[i]? = some x → w.cell? (a.add i) = some (.int k x)) ∧ (∀ x ∈ l, (Lit.int k x).wf = true) := by
      intro j
      induction j with
      | zero => intro _; exact ⟨[], rfl, by simp, by simp⟩
      | succ j ih =>
        intro hj
        obtain ⟨l, h1, h2, h3⟩ := ih (by omega)
        obtain ⟨x, hx1, hx2⟩ := hread j (by omega)
        refine ⟨l ++ [x], by simp [h1], ?_, ?_⟩
        · intro i y hy
          by_cases hij : i < l.length
          · rw [List.getElem?_append_left hij] at hy
            exact h2 i y hy
          · have hlt := (List.getElem?_eq_some_iff.1 hy).1
            simp at hlt
            have : i = j := by omega
            subst this
            rw [List.getElem?_append_right (by omega)] at hy
            simp [h1] at hy
            subst hy
            exact hx1
        · intro y hy
          simp at hy
          rcases hy with hy | rfl
          · exact h3 y hy
          · exact hx2
    obtain ⟨l, hl1, hl2, hl3⟩ := hlist len (Nat.le_refl _)
    refine ⟨l, ⟨_, _, _, rfl, hl1.symm, (fun h => by cases h), fun h0 => ?_⟩, hl3⟩
    obtain ⟨x, hx⟩ : ∃ x, l[0]? = some x := ⟨_, List.getElem?_eq_getElem (by omega)⟩
    have hc0 := hl2 0 x hx
    have e0 : a.add 0 = a := by simp [Addr.add]
    rw [e0] at hc0
    have hsp : a.spot = none := by
      cases hsp : a.spot with
      | none => rfl
      | some q =>
        simp [World.cell?] at hc0
        split at hc0 <;> simp [hsp] at hc0
    have ha : a = ⟨a.block, a.off, none⟩ := by cases a; simp_all
    refine ⟨hl, a.block, a.off, by rw [← ha], World.block_lt_of_cell? w a hc0, fun i y hy => ?_⟩
    have h1 := hl2 i y hy
    have e1 : a.add i = ⟨a.block, a.off + i, none⟩ := by rw [ha]; simp [Addr.add]
    rw [e1] at h1
    exact h1
end

section
set_option linter.unusedVariables false
set_option linter.unusedSimpArgs false
set_option linter.unusedSectionVars false
open Go.RowKit

/-- A panic with an error of package api. -/
def raisedBy (n : Int) (b : Bool) : PanicEntry := { v := .iface 34 (.int .i64 n), recovered := b }
theorem Blk.newA {w : World} {cs : Array Value} {T : TypeId} {b : Nat} (h : w.heap.size = b) : Blk (w.alloc (.cells cs T)) b cs T := h ▸ Blk.new w cs T
/-- The slice lies behind the memory that was there. -/
def Fresh (base : Nat) (v : Value) : Prop := ∀ ad n c, v = .slice (some ad) n c → base ≤ ad.block
theorem Fresh.nil {b : Nat} : Fresh b (.slice none 0 0) := fun _ _ _ h => by cases h
theorem Fresh.mono {b b' : Nat} {v : Value} (h : Fresh b v) (hb : b' ≤ b) : Fresh b' v := fun ad n c e => Nat.le_trans hb (h ad n c e)

theorem tis_yes {b : Bool} (h : b = true) (n : Int) (w : World) : Calls Tryz.prog 50 #[.bool b, .int .i64 n] w fun e w' => e = .returned (.tuple #[]) ∧ w = w' := by
  subst h
  go_enter Tryz.func50, Tryz.ntmps50
  go_wp2
  go_end0
  exact ⟨rfl, rfl⟩
theorem tis_no {b : Bool} (h : b = false) (n : Int) (w : World) : Calls Tryz.prog 50 #[.bool b, .int .i64 n] w fun e w' => e = .panicked [raisedBy n false] ∧ w = w' := by
  subst h
  go_enter Tryz.func50, Tryz.ntmps50
  go_wp2
  exact ⟨rfl, rfl, rfl⟩
theorem tmust_yes (bf : Nat) (w : World) (h : Blk w bf #[.int .i64 0] 34) : Calls Tryz.prog 55 #[.slice (some ⟨bf, 0, none⟩) 1 1] w fun e w' => e = .returned (.tuple #[]) ∧ w = w' := by
  obtain ⟨c0, -⟩ := h.one
  go_enter Tryz.func55, Tryz.ntmps55
  go_wp2_with fail
  refine wp_loop_rounds 2 ?_
  rw [rounds_succ]
  go_wp2_with fail
  rw [rounds_succ]
  go_wp2_with fail
  go_end0
  exact ⟨rfl, rfl⟩
theorem tmust_no (n : Int) (hn : n ≠ 0) (bf : Nat) (w : World) (h : Blk w bf #[.int .i64 n] 34) : Calls Tryz.prog 55 #[.slice (some ⟨bf, 0, none⟩) 1 1] w fun e w' => e = .panicked [raisedBy n false] ∧ w = w' := by
  obtain ⟨c0, -⟩ := h.one
  go_enter Tryz.func55, Tryz.ntmps55
  go_wp2_with fail
  refine wp_loop_rounds 1 ?_
  rw [rounds_succ]
  go_wp2_with fail
  exact ⟨rfl, rfl, rfl⟩

/-- The deferred function of a call that returns: it does nothing. -/
theorem tcaught_idle (p : Addr) (f : Value) (w : World) :
    CallsD Tryz.prog 42 #[.pointer (some p), f] .returning w fun e u' w' => e = .returned (.tuple #[]) ∧ u' = .returning ∧ w' = w := by
  refine callsD_of_wpS Tryz.func42 rfl fun c₀ cs hu => ?_
  simp only [Tryz.ntmps42, List.size_toArray, List.length_cons, List.length_nil, Nat.reduceAdd, Nat.reduceSub, Array.replicate_succ, Array.replicate_zero, List.push_toArray, List.append_toArray, List.nil_append, List.cons_append]
  apply wpS_seq
  apply wpS_region
  simp [wpOpsS, go_sem, recoverD, hu, Exit.thenS]
  refine wpS_of_wp ?_
  have HU := Lib.hid hu
  clear hu
  go_wp2
  refine ⟨rfl, .returning, ?_, .tuple #[], by simp [results, Tryz.results42], rfl, rfl, rfl⟩
  have hu := HU.out
  cases c₀
  simp_all

set_option maxHeartbeats 600000 in
/-- The deferred function where an error was raised: the result is cleared, the error is laid. -/
theorem tcaught_score (pe po : Nat) (n : Int) (x z : Value) (te tq : TypeId) (older : List PanicEntry) (w : World) (he : Blk w pe #[z] te) (ho : Blk w po #[x] tq) (h1 : pe ≠ po) :
    CallsD Tryz.prog 42 #[.pointer (some ⟨pe, 0, none⟩), .func (.func 43) #[] #[.pointer (some ⟨po, 0, none⟩)]] (.panicking (raisedBy n false :: older)) w fun e u' w' =>
      e = .returned (.tuple #[]) ∧ u' = .panicking (raisedBy n true :: older) ∧ w' = (w.setCell ⟨po, 0, none⟩ (.int .i64 0)).setCell ⟨pe, 0, none⟩ (.int .i64 n) := by
  obtain ⟨c0, f0⟩ := he.one
  obtain ⟨c1, f1⟩ := ho.one
  have hta : ∀ w : World, (Instr.typeAssert (.iface 34 (.int .i64 n)) 20 34 true).run Tryz.prog w = .ok (.tuple #[.int .i64 n, .bool true]) w := fun _ => by kernel_rfl
  have h1' := h1.symm
  refine callsD_of_wpS Tryz.func42 rfl fun c₀ cs hu => ?_
  simp only [Tryz.ntmps42, List.size_toArray, List.length_cons, List.length_nil, Nat.reduceAdd, Nat.reduceSub, Array.replicate_succ, Array.replicate_zero, List.push_toArray, List.append_toArray, List.nil_append, List.cons_append]
  apply wpS_seq
  apply wpS_region
  simp [wpOpsS, go_sem, recoverD, hu, Exit.thenS, raisedBy]
  refine wpS_of_wp ?_
  have HU := Lib.hid hu
  clear hu
  go_wp2
  go_end0
  go_wp2
  refine ⟨rfl, .panicking (raisedBy n true :: older), ?_, .tuple #[], by simp [results, Tryz.results42], rfl, rfl, rfl⟩
  simp [raisedBy]

set_option maxHeartbeats 600000 in
/-- The deferred function where an error was raised: the result is cleared, the error is laid. -/
theorem tcaught_segs (pe po : Nat) (n : Int) (x z : Value) (te tq : TypeId) (older : List PanicEntry) (w : World) (he : Blk w pe #[z] te) (ho : Blk w po #[x] tq) (h1 : pe ≠ po) :
    CallsD Tryz.prog 42 #[.pointer (some ⟨pe, 0, none⟩), .func (.func 47) #[] #[.pointer (some ⟨po, 0, none⟩)]] (.panicking (raisedBy n false :: older)) w fun e u' w' =>
      e = .returned (.tuple #[]) ∧ u' = .panicking (raisedBy n true :: older) ∧ w' = (w.setCell ⟨po, 0, none⟩ (.slice none 0 0)).setCell ⟨pe, 0, none⟩ (.int .i64 n) := by
  obtain ⟨c0, f0⟩ := he.one
  obtain ⟨c1, f1⟩ := ho.one
  have hta : ∀ w : World, (Instr.typeAssert (.iface 34 (.int .i64 n)) 20 34 true).run Tryz.prog w = .ok (.tuple #[.int .i64 n, .bool true]) w := fun _ => by kernel_rfl
  have h1' := h1.symm
  refine callsD_of_wpS Tryz.func42 rfl fun c₀ cs hu => ?_
  simp only [Tryz.ntmps42, List.size_toArray, List.length_cons, List.length_nil, Nat.reduceAdd, Nat.reduceSub, Array.replicate_succ, Array.replicate_zero, List.push_toArray, List.append_toArray, List.nil_append, List.cons_append]
  apply wpS_seq
  apply wpS_region
  simp [wpOpsS, go_sem, recoverD, hu, Exit.thenS, raisedBy]
  refine wpS_of_wp ?_
  have HU := Lib.hid hu
  clear hu
  go_wp2
  go_end0
  go_wp2
  refine ⟨rfl, .panicking (raisedBy n true :: older), ?_, .tuple #[], by simp [results, Tryz.results42], rfl, rfl, rfl⟩
  simp [raisedBy]

set_option maxHeartbeats 600000 in
/-- The deferred function where an error was raised: the result is cleared, the error is laid. -/
theorem tcaught_cont (pe po : Nat) (n : Int) (x z : Value) (te tq : TypeId) (older : List PanicEntry) (w : World) (he : Blk w pe #[z] te) (ho : Blk w po #[x] tq) (h1 : pe ≠ po) :
    CallsD Tryz.prog 42 #[.pointer (some ⟨pe, 0, none⟩), .func (.func 49) #[] #[.pointer (some ⟨po, 0, none⟩)]] (.panicking (raisedBy n false :: older)) w fun e u' w' =>
      e = .returned (.tuple #[]) ∧ u' = .panicking (raisedBy n true :: older) ∧ w' = (w.setCell ⟨po, 0, none⟩ (.slice none 0 0)).setCell ⟨pe, 0, none⟩ (.int .i64 n) := by
  obtain ⟨c0, f0⟩ := he.one
  obtain ⟨c1, f1⟩ := ho.one
  have hta : ∀ w : World, (Instr.typeAssert (.iface 34 (.int .i64 n)) 20 34 true).run Tryz.prog w = .ok (.tuple #[.int .i64 n, .bool true]) w := fun _ => by kernel_rfl
  have h1' := h1.symm
  refine callsD_of_wpS Tryz.func42 rfl fun c₀ cs hu => ?_
  simp only [Tryz.ntmps42, List.size_toArray, List.length_cons, List.length_nil, Nat.reduceAdd, Nat.reduceSub, Array.replicate_succ, Array.replicate_zero, List.push_toArray, List.append_toArray, List.nil_append, List.cons_append]
  apply wpS_seq
  apply wpS_region
  simp [wpOpsS, go_sem, recoverD, hu, Exit.thenS, raisedBy]
  refine wpS_of_wp ?_
  have HU := Lib.hid hu
  clear hu
  go_wp2
  go_end0
  go_wp2
  refine ⟨rfl, .panicking (raisedBy n true :: older), ?_, .tuple #[], by simp [results, Tryz.results42], rfl, rfl, rfl⟩
  simp [raisedBy]
end

end Go.Proofs.YtogengangfohfaaGreat
