/-
  Words for memory, used by all walks of the seat: a block that holds just these cells; which of the old blocks a call may change. No program is in sight here.
  A range over a function whose iterator may keep cells of its own: what the iterator promises (SeqB), the law of the statement (range_B). No program is in sight here.
  A range over a function whose iterator may change cells that it has captured (the blocks X): what the iterator promises (SeqX), the law of the statement. No program is in sight here.
  A range over a function whose iterator changes nothing but the blocks X that it has captured: the rounds may change all the rest. What the iterator promises (SeqY), the law of the statement. No program is in sight here.
  The plain mathematics of package tally: what its functions compute of a list of numbers. No program is in sight here.
  Varints. No program is in sight here.
  The step from a walk to a law's row, once for all laws of the seat: whoever shows that the call returns true and changes nothing that lay in memory before, has the row's contract.
  Slices of numbers in memory: what a slice value reads as; what keeps it; how an argument opens. No program is in sight here.
  Histograms: the plain law; lists of byte slices in memory. No program is in sight here.
  The iterator over the bytes of a varint.
  The idiom append([]T{}, x...): a copy of a slice of numbers in memory of the call's own. No program is in sight here.
  Walks: slices.Clone at []byte; rows of bytes.
  A result of type bool that lies in a cell; a function value is not nil.
  Walks: slices.Clone at []byte, num.parts, num.PutVarint.
  The greatest number of a list; whether a list holds a positive one. No program is in sight here.
  Walks over package canon: validity of a tree, its greatest length.
  Walks over package canon: the deferred function, MaxLength.
  What an iterator has handed out after k rounds. No program is in sight here.
  slices.Backward over bytes: its iterator's contract.
  A region that draws its order and calls, walked as ONE line of steps: the condition on the world may be chosen anew, and stronger, behind each call. No program is in sight here.
-/
import Derived.WalkKit
import Derived.WalkSpells
import Derived.WalkLawsBesides
import Derived.Lib.Hide
import Derived.Defers
import Derived.Recover
import Derived.StillTailTactics
import Derived.Deep.QuietTactic
import Derived.BigQuiet
import Derived.Carry
import Derived.RangeFuncNested
import Derived.RangeFuncBound
import Derived.RangeFuncCalls
import Derived.RangeFuncLeaves
import Derived.OwnWalkIn
import Derived.TacticsInMore
import Derived.LoopNIn
import Derived.LoopIn
import Derived.Scope
import Derived.RowKit
import Derived.Test.YtcmagccfagijlaaGreatRows
import Derived.ProofKit
import Derived.Deep.Slices
import Derived.OpenShut
import Derived.OwnWalk
import Derived.Laws.AppendOwnNone
import Derived.IntWalk
import Derived.BigFrameIn
import Derived.Shelf.Abstract
import Derived.Lib.Slices
import Derived.Deep.RegionHeld3
namespace Go.Proofs.YtcmagccfagijlaaGreat
set_option linter.unusedVariables false
set_option linter.unusedSimpArgs false
set_option linter.unusedSectionVars false
set_option maxRecDepth 100000
section
open Go.RowKit

@[go_sem] theorem past_lt2 {a b : Nat} (h : a < b) : a < b + 1 + 1 := by omega
@[go_sem] theorem past_lt3 {a b : Nat} (h : a < b) : a < b + 1 + 1 + 1 := by omega
@[go_sem] theorem past_lt4 {a b : Nat} (h : a < b) : a < b + 1 + 1 + 1 + 1 := by omega
@[go_sem] theorem past_lt5 {a b : Nat} (h : a < b) : a < b + 1 + 1 + 1 + 1 + 1 := by omega
@[go_sem] theorem past_lt6 {a b : Nat} (h : a < b) : a < b + 1 + 1 + 1 + 1 + 1 + 1 := by omega
@[go_sem] theorem past_lt7 {a b : Nat} (h : a < b) : a < b + 1 + 1 + 1 + 1 + 1 + 1 + 1 := by omega
@[go_sem] theorem past_lt8 {a b : Nat} (h : a < b) : a < b + 1 + 1 + 1 + 1 + 1 + 1 + 1 + 1 := by omega
@[go_sem] theorem past_lt9 {a b : Nat} (h : a < b) : a < b + 1 + 1 + 1 + 1 + 1 + 1 + 1 + 1 + 1 := by omega
@[go_sem] theorem past_lt10 {a b : Nat} (h : a < b) : a < b + 1 + 1 + 1 + 1 + 1 + 1 + 1 + 1 + 1 + 1 := by omega
@[go_sem] theorem past_lt11 {a b : Nat} (h : a < b) : a < b + 1 + 1 + 1 + 1 + 1 + 1 + 1 + 1 + 1 + 1 + 1 := by omega
@[go_sem] theorem past_lt12 {a b : Nat} (h : a < b) : a < b + 1 + 1 + 1 + 1 + 1 + 1 + 1 + 1 + 1 + 1 + 1 + 1 := by omega
@[go_sem] theorem past_ne0 {a b : Nat} (h : a < b) : (a = b) = False := eq_false (by omega)
@[go_sem] theorem past_en0 {a b : Nat} (h : a < b) : (b = a) = False := eq_false (by omega)
@[go_sem] theorem past_ne1 {a b : Nat} (h : a < b) : (a = b + 1) = False := eq_false (by omega)
@[go_sem] theorem past_en1 {a b : Nat} (h : a < b) : (b + 1 = a) = False := eq_false (by omega)
@[go_sem] theorem past_ne2 {a b : Nat} (h : a < b) : (a = b + 1 + 1) = False := eq_false (by omega)
@[go_sem] theorem past_en2 {a b : Nat} (h : a < b) : (b + 1 + 1 = a) = False := eq_false (by omega)
@[go_sem] theorem past_ne3 {a b : Nat} (h : a < b) : (a = b + 1 + 1 + 1) = False := eq_false (by omega)
@[go_sem] theorem past_en3 {a b : Nat} (h : a < b) : (b + 1 + 1 + 1 = a) = False := eq_false (by omega)
@[go_sem] theorem past_ne4 {a b : Nat} (h : a < b) : (a = b + 1 + 1 + 1 + 1) = False := eq_false (by omega)
@[go_sem] theorem past_en4 {a b : Nat} (h : a < b) : (b + 1 + 1 + 1 + 1 = a) = False := eq_false (by omega)
@[go_sem] theorem past_ne5 {a b : Nat} (h : a < b) : (a = b + 1 + 1 + 1 + 1 + 1) = False := eq_false (by omega)
@[go_sem] theorem past_en5 {a b : Nat} (h : a < b) : (b + 1 + 1 + 1 + 1 + 1 = a) = False := eq_false (by omega)
@[go_sem] theorem past_ne6 {a b : Nat} (h : a < b) : (a = b + 1 + 1 + 1 + 1 + 1 + 1) = False := eq_false (by omega)
@[go_sem] theorem past_en6 {a b : Nat} (h : a < b) : (b + 1 + 1 + 1 + 1 + 1 + 1 = a) = False := eq_false (by omega)
@[go_sem] theorem past_ne7 {a b : Nat} (h : a < b) : (a = b + 1 + 1 + 1 + 1 + 1 + 1 + 1) = False := eq_false (by omega)
@[go_sem] theorem past_en7 {a b : Nat} (h : a < b) : (b + 1 + 1 + 1 + 1 + 1 + 1 + 1 = a) = False := eq_false (by omega)
@[go_sem] theorem past_ne8 {a b : Nat} (h : a < b) : (a = b + 1 + 1 + 1 + 1 + 1 + 1 + 1 + 1) = False := eq_false (by omega)
@[go_sem] theorem past_en8 {a b : Nat} (h : a < b) : (b + 1 + 1 + 1 + 1 + 1 + 1 + 1 + 1 = a) = False := eq_false (by omega)
@[go_sem] theorem past_ne9 {a b : Nat} (h : a < b) : (a = b + 1 + 1 + 1 + 1 + 1 + 1 + 1 + 1 + 1) = False := eq_false (by omega)
@[go_sem] theorem past_en9 {a b : Nat} (h : a < b) : (b + 1 + 1 + 1 + 1 + 1 + 1 + 1 + 1 + 1 = a) = False := eq_false (by omega)
@[go_sem] theorem past_ne10 {a b : Nat} (h : a < b) : (a = b + 1 + 1 + 1 + 1 + 1 + 1 + 1 + 1 + 1 + 1) = False := eq_false (by omega)
@[go_sem] theorem past_en10 {a b : Nat} (h : a < b) : (b + 1 + 1 + 1 + 1 + 1 + 1 + 1 + 1 + 1 + 1 = a) = False := eq_false (by omega)
@[go_sem] theorem past_ne11 {a b : Nat} (h : a < b) : (a = b + 1 + 1 + 1 + 1 + 1 + 1 + 1 + 1 + 1 + 1 + 1) = False := eq_false (by omega)
@[go_sem] theorem past_en11 {a b : Nat} (h : a < b) : (b + 1 + 1 + 1 + 1 + 1 + 1 + 1 + 1 + 1 + 1 + 1 = a) = False := eq_false (by omega)
@[go_sem] theorem past_ne12 {a b : Nat} (h : a < b) : (a = b + 1 + 1 + 1 + 1 + 1 + 1 + 1 + 1 + 1 + 1 + 1 + 1) = False := eq_false (by omega)
@[go_sem] theorem past_en12 {a b : Nat} (h : a < b) : (b + 1 + 1 + 1 + 1 + 1 + 1 + 1 + 1 + 1 + 1 + 1 + 1 = a) = False := eq_false (by omega)

def Blk (w : World) (b : Nat) (cs : Array Value) (T : TypeId) : Prop := w.heap[b]? = some (.cells cs T (0,0))

structure Keeps (w w' : World) (S : List Nat) : Prop where
 os : w'.os = w.os
 tape : w'.tape = w.tape
 output : w'.output = w.output
 size : w.heap.size ≤ w'.heap.size
 block : ∀ k,k < w.heap.size → k ∉ S → w'.heap[k]? = w.heap[k]?

section
variable {w w' w'' : World} {S S' : List Nat} {b : Nat} {cs : Array Value} {T : TypeId}

theorem Keeps.refl (w : World) (S : List Nat) : Keeps w w S := ⟨rfl,rfl,rfl,Nat.le_refl _,fun _ _ _ => rfl⟩
theorem Keeps.trans (h : Keeps w w' S) (k : Keeps w' w'' S') (hs : ∀ x ∈ S',x < w.heap.size → x ∈ S) : Keeps w w'' S :=
 ⟨k.os.trans h.os,k.tape.trans h.tape,k.output.trans h.output,Nat.le_trans h.size k.size,
  fun x hx hn => (k.block x (Nat.lt_of_lt_of_le hx h.size) (fun hm => hn (hs x hm hx))).trans (h.block x hx hn)⟩
theorem Keeps.then (h : Keeps w w' S) (k : Keeps w' w'' []) : Keeps w w'' S := h.trans k (fun _ h => by cases h)
theorem Keeps.mono (h : Keeps w w' S) (hs : ∀ x ∈ S,x ∈ S') : Keeps w w' S' := ⟨h.os,h.tape,h.output,h.size,fun k hk hn => h.block k hk (fun hm => hn (hs k hm))⟩
theorem Keeps.alloc (h : Keeps w w' S) (o : Obj) : Keeps w (w'.alloc o) S :=
 ⟨h.os,h.tape,h.output,by have := h.size;simp;omega,fun k hk hn => by
  rw [Below.heap_alloc _ _ _ (Nat.lt_of_lt_of_le hk h.size)];exact h.block k hk hn⟩
theorem Keeps.drew (h : Keeps w w' S) : Keeps w w'.drew S := ⟨h.os,h.tape,h.output,h.size,h.block⟩
theorem Keeps.drewN (h : Keeps w w' S) (n : Nat) : Keeps w (w'.drewN n) S := ⟨h.os,h.tape,h.output,h.size,h.block⟩
theorem Keeps.setCell (h : Keeps w w' S) {a : Addr} (ha : w.heap.size ≤ a.block ∨ a.block ∈ S) (v : Value) : Keeps w (w'.setCell a v) S :=
 ⟨h.os,h.tape,h.output,by have := h.size;simp;omega,fun k hk hn => by
  rw [Below.heap_setCell _ _ _ _ (by intro e;subst e;rcases ha with ha | ha;omega;exact hn ha)];exact h.block k hk hn⟩
theorem Keeps.below (h : Keeps w w' []) : Below w.heap.size w w' := ⟨h.os,h.tape,h.output,h.size,fun k hk => h.block k hk (by simp)⟩
theorem Keeps.of_below (h : Below w.heap.size w w') : Keeps w w' [] := ⟨h.os,h.tape,h.output,h.size,fun k hk _ => h.block k hk⟩
theorem Keeps.of_grown {row : Option Nat} (h : w.grownBy w' row) (hs : ∀ k,row = some k → k ∈ S) : Keeps w w' S :=
 ⟨h.os,h.tape,h.output,h.size,fun k hk hn => h.block k hk (fun e => hn (hs k e.symm))⟩
theorem Keeps.cell (h : Keeps w w' S) {p : Addr} (hp : p.block < w.heap.size) (hn : p.block ∉ S) : w'.cell? p = w.cell? p := World.cell?_of_block (w := w) (h.block p.block hp hn)
theorem Keeps.frozen (h : Keeps w w' S) {p : Addr} (hp : p.block < w.heap.size) (hn : p.block ∉ S) : w'.frozen? p = w.frozen? p := World.frozen?_of_block (w := w) (h.block p.block hp hn)

theorem Blk.cell (h : Blk w b cs T) (i : Nat) : w.cell? ⟨b,i,none⟩ = cs[i]? := cell_of_row w b i cs T (0,0) h
theorem Blk.frozen (h : Blk w b cs T) (i : Nat) : w.frozen? ⟨b,i,none⟩ = false := by
 have h' : w.heap[b]? = some (.cells cs T (0,0)) := h
 simp [World.frozen?,h']
theorem Blk.lt (h : Blk w b cs T) : b < w.heap.size := (Array.getElem?_eq_some_iff.1 h).1
theorem Blk.keeps (h : Blk w b cs T) (k : Keeps w w' S) (hn : b ∉ S) : Blk w' b cs T := (k.block b h.lt hn).trans h
theorem Blk.alloc (h : Blk w b cs T) (o : Obj) : Blk (w.alloc o) b cs T := h.keeps ((Keeps.refl w []).alloc o) (by simp)
theorem Blk.drew (h : Blk w b cs T) : Blk w.drew b cs T := h
theorem Blk.drewN (h : Blk w b cs T) (n : Nat) : Blk (w.drewN n) b cs T := h
theorem Blk.new (w : World) (cs : Array Value) (T : TypeId) : Blk (w.alloc (.cells cs T)) w.heap.size cs T := heap_alloc_new w _
theorem Blk.set (h : Blk w b cs T) (i : Nat) (v : Value) : Blk (w.setCell ⟨b,i,none⟩ v) b (cs.setIfInBounds i v) T := by
 have h' : w.heap[b]? = some (.cells cs T (0,0)) := h
 unfold Blk World.setCell
 simp [Array.getElem?_modify,h']
theorem Blk.setOther (h : Blk w b cs T) {a : Addr} (hn : a.block ≠ b) (v : Value) : Blk (w.setCell a v) b cs T := by
 have h' : w.heap[b]? = some (.cells cs T (0,0)) := h
 unfold Blk
 rw [Below.heap_setCell _ _ _ _ (fun e => hn e.symm)]
 exact h'
end

theorem Keeps.setCell' {w w' : World} {S : List Nat} {a : Addr} {v : Value} (ha : w.heap.size ≤ a.block ∨ a.block ∈ S) (h : Keeps w w' S) : Keeps w (w'.setCell a v) S := h.setCell ha v

theorem Blk.three {w : World} {b : Nat} {x y z : Value} {T : TypeId} (h : Blk w b #[x,y,z] T) :
  w.cell? ⟨b,0,none⟩ = some x ∧ w.cell? ⟨b,1,none⟩ = some y ∧ w.cell? ⟨b,2,none⟩ = some z ∧
  w.frozen? ⟨b,0,none⟩ = false ∧ w.frozen? ⟨b,1,none⟩ = false ∧ w.frozen? ⟨b,2,none⟩ = false :=
 ⟨h.cell 0,h.cell 1,h.cell 2,h.frozen 0,h.frozen 1,h.frozen 2⟩
theorem Blk.one {w : World} {b : Nat} {x : Value} {T : TypeId} (h : Blk w b #[x] T) : w.cell? ⟨b,0,none⟩ = some x ∧ w.frozen? ⟨b,0,none⟩ = false := ⟨h.cell 0,h.frozen 0⟩

theorem ret_int {k : IntKind} {a b : Int} (h : a = b) : Ending.returned (.int k a) = .returned (.int k b) := by rw [h]
theorem ret_bool {a b : Bool} (h : a = b) : Ending.returned (.bool a) = .returned (.bool b) := by rw [h]
end

section
open Go.RowKit

def SeqB {α : Type} (P : Program) (g : Nat) (lb : Array Value) (encs : α → Array Value) (fine : Nat → Prop) (S Sp : List α → Prop) (w : World) : Prop :=
 ∀ (l : Nat) (C : List Nat) (J Jx : List α → World → Prop) (W : World),Below w.heap.size w W → (∀ k ∈ C,k < W.heap.size ∧ fine k) →
  (∀ s A B,J s A → Below W.heap.size A B → J s B) → (∀ s A B,Jx s A → Below W.heap.size A B → Jx s B) →
  (∀ pre x W1,J pre W1 → Sp (pre ++ [x]) → YieldAt Fence.wide 9 P l (encs x) W1 fun e W' =>
   (e = .returned (.bool true) ∧ J (pre ++ [x]) W' ∧ Keeps W1 W' C) ∨ (e = .returned (.bool false) ∧ Jx (pre ++ [x]) W' ∧ Keeps W1 W' C)) →
  J [] W →
  CallsIn Fence.wide 9 P g (#[.func (.yield l) #[] #[]] ++ lb) W fun e W' => (∃ v,e = .returned v) ∧ ((∃ xs,S xs ∧ J xs W') ∨ (∃ pre,Sp pre ∧ Jx pre W'))

def Turned (l : Nat) (W W' : World) : Prop := ∃ r r',W.heap[l]? = some (.loop r) ∧ W' = W.putObj l (.loop r')

theorem Turned.keeps {l : Nat} {W W' : World} (h : Turned l W W') : Keeps W W' [l] := by
 obtain ⟨r,r',_,rfl⟩ := h
 exact ⟨rfl,rfl,rfl,by simp,fun k _ hn => World.putObj_heap_other (by simpa using hn)⟩
theorem Turned.below {l : Nat} {W W' : World} (h : Turned l W W') {B : Nat} (hB : B ≤ l) : Below B W W' := by
 obtain ⟨r,r',_,rfl⟩ := h
 exact ⟨rfl,rfl,rfl,by simp,fun k hk => World.putObj_heap_other (by omega)⟩
theorem Turned.blk {l : Nat} {W W' : World} (h : Turned l W W') {b : Nat} {cs : Array Value} {T : TypeId} (hb : Blk W b cs T) : Blk W' b cs T := by
 obtain ⟨r,r',hr,rfl⟩ := h
 refine (World.putObj_heap_other ?_).trans hb
 intro e
 subst e
 have hb' : W.heap[b]? = some (.cells cs T (0,0)) := hb
 rw [hr] at hb'
 cases hb'
theorem Turned.size {l : Nat} {W W' : World} (h : Turned l W W') : W'.heap.size = W.heap.size := by
 obtain ⟨r,r',_,rfl⟩ := h;simp

def postB {α : Type} (C : List Nat) (I : List α → World → Prop) (Ix : Code → List α → World → Prop) (xs : List α) (W : World) : Exit → Act → World → Prop
 | .normal,_,W' => Keeps W W' C ∧ I xs W'
 | .ret,_,W' => Keeps W W' C ∧ Ix .ret xs W'
 | .exit id,_,W' => Keeps W W' C ∧ Ix (.exit id) xs W'
 | .goto t,_,W' => Keeps W W' C ∧ Ix (.goto t) xs W'
 | .panic _,_,_ => False
 | .outgrown,_,_ => False

theorem callsIn_any {n m : Nat} {P : Program} {f : FuncId} {args : Array Value} {w : World} {R : Ending → World → Prop} (h : CallsIn Fence.wide n P f args w R) : CallsIn Fence.wide m P f args w R := callsIn_wide.2 (callsIn_wide.1 h)

theorem round_any {n m : Nat} {P : Program} {l : Nat} {f : FuncId} {tmps : Array Value} {assign body : Code} {w : World} {R : Ending → World → Prop} (h : RoundIn Fence.wide n P l f tmps assign body w R) : RoundIn Fence.wide m P l f tmps assign body w R := ⟨h.1,fun c cs _ => h.2 c cs (room_wide _)⟩
theorem calls_in {n : Nat} {P : Program} {l : Nat} {f : FuncId} {args : Array Value} {w : World} {R : Ending → World → Prop} (h : Calls P f args w R) : CallsIn (Fence.wide.inRound l) n P f args w R := CallsIn.inRound l (callsIn_wide.2 h)

theorem range_B {α : Type} {P : Program} {n : Nat} {g : Operand} {ps : Array Tmp} {assign body : Code} {Q : Exit → Act → World → Prop} {a : Act} {w : World}
  {gf : Nat} {lb : Array Value} (hg : a.eval g = .func (.func gf) #[] lb) (eg : ∀ args w,(callFunc gf args).run P w = .ok (.enter gf args) w)
  {encs : α → Array Value} {fine : Nat → Prop} {S Sp : List α → Prop} (hseq : SeqB P gf lb encs fine S Sp w)
  (C : List Nat) (hC : ∀ k ∈ C,k < w.heap.size ∧ fine k) (hfine : fine (w.heap.size + 1)) (hps : ∀ x,(encs x).size = ps.size)
  (I : List α → World → Prop) (Ix : Code → List α → World → Prop) (hI : ∀ s A B,I s A → Below w.heap.size A B → I s B) (hIx : ∀ c s A B,Ix c s A → Below w.heap.size A B → Ix c s B) (h0 : I [] w)
  (hround : ∀ (l : Nat) (pre : List α) (x : α) (W : World),w.heap.size ≤ l → l < W.heap.size → I pre W → Sp (pre ++ [x]) →
   assign.wpIn (Fence.wide.inRound l) 9 P (Exit.then (fun a' W' => Keeps W W' C ∧ ∀ W2,Turned l W' W2 → body.wpIn (Fence.wide.inRound l) 9 P (postB C I Ix (pre ++ [x]) W2) a' W2) (fun _ _ _ => False))
    { tmps := (ps.zip (encs x)).foldl (fun t (p,v) => t.setIfInBounds p v) a.tmps,defers := [] } W)
  (hdone : ∀ (D : Nat) (xs : List α) (W : World),w.heap.size ≤ D → S xs → I xs W → W.heap[D]? = some (.deferred (some [])) → Q .normal { a with defers := { target := .collected D,args := #[] } :: a.defers } W)
  (hstop : ∀ (D : Nat) (c : Code) (pre : List α) (W : World),w.heap.size ≤ D → Sp pre → Ix c pre W → W.heap[D]? = some (.deferred (some [])) → c.wpIn Fence.wide n P Q { a with defers := { target := .collected D,args := #[] } :: a.defers } W) :
  (Code.rangeFunc g ps assign body).wpIn Fence.wide n P Q a w := by
 refine wpIn_rangeFunc ?_
 intro fn hfn
 obtain ⟨rec,hrec⟩ : ∃ rec : LoopState → Option Code → Loop,rec = fun st pe => { state := st,pending := pe,fn,tmps := a.tmps,params := ps,assign,body,defers := w.heap.size } := ⟨_,rfl⟩
 obtain ⟨W1,hW1⟩ : ∃ W1,(w.alloc (.deferred (some []))).alloc (.loop (rec .ready none)) = W1 := ⟨_,rfl⟩
 have hs1 : W1.heap.size = w.heap.size + 2 := by rw [← hW1];simp
 have hB1 : Below w.heap.size w W1 := by rw [← hW1];exact ((Below.refl _ w).alloc (Nat.le_refl _) _).alloc (by simp) _
 have hL1 : W1.heap[w.heap.size + 1]? = some (.loop (rec .ready none)) := by
  rw [← hW1];have := World.alloc_heap_new (w.alloc (.deferred (some []))) (.loop (rec .ready none));rwa [World.size_alloc] at this
 have hK1 : W1.heap[w.heap.size]? = some (.deferred (some [])) := by
  rw [← hW1];exact (Below.heap_alloc _ _ _ (by simp)).trans (World.alloc_heap_new w _)
 -- what lies older than the iterator's call is handed on by whatever the iterator does
 have turn : ∀ {A : World} {r : Loop} (r' : Loop),A.heap[w.heap.size + 1]? = some (.loop r) → Below w.heap.size A (A.putObj (w.heap.size + 1) (.loop r')) := fun r' h =>
  Turned.below ⟨_,r',h,rfl⟩ (Nat.le_succ _)
 refine ⟨w.heap.size + 1,[{ target := .collected w.heap.size,args := #[] }],W1,{ target := .fn (.func gf) lb,args := #[.func (.yield (w.heap.size + 1)) #[] #[]] },W1,gf,
  #[.func (.yield (w.heap.size + 1)) #[] #[]] ++ lb,W1,?_,?_,fun _ _ => trivial,?_,fun h => by simp [Fence.wide] at h,callsIn_any (n := 9) ?_⟩
 ·rw [← hW1,hrec];exact run_enterLoop_outer _ _ _ _ _
 ·simp only [resolve,hg]
  simp [go_sem]
 ·simp [invoke,go_sem,eg]
 refine (hseq (w.heap.size + 1) (C ++ [w.heap.size + 1])
  (fun pre W => I pre W ∧ W.heap[w.heap.size + 1]? = some (.loop (rec .ready none)) ∧ W.heap[w.heap.size]? = some (.deferred (some [])))
  (fun pre W => ∃ c,Ix c pre W ∧ W.heap[w.heap.size + 1]? = some (.loop (rec .done (some c))) ∧ W.heap[w.heap.size]? = some (.deferred (some [])))
  W1 hB1 ?_ ?_ ?_ ?_ ⟨hI _ _ _ h0 hB1,hL1,hK1⟩).mono ?_
 ·intro k hk
  rcases List.mem_append.1 hk with hk | hk
  ·exact ⟨by have := (hC k hk).1;omega,(hC k hk).2⟩
  ·simp at hk;subst hk;exact ⟨by omega,hfine⟩
 ·rintro s A B ⟨hi,hl,hk⟩ hb
  exact ⟨hI _ _ _ hi (hb.mono (by omega)),(hb.block _ (by omega)).trans hl,(hb.block _ (by omega)).trans hk⟩
 ·rintro s A B ⟨c,hi,hl,hk⟩ hb
  exact ⟨c,hIx _ _ _ _ hi (hb.mono (by omega)),(hb.block _ (by omega)).trans hl,(hb.block _ (by omega)).trans hk⟩
 ·-- one round
  rintro pre x W ⟨hi,hl,hk⟩ hsp
  have hlt : w.heap.size + 1 < W.heap.size := (Array.getElem?_eq_some_iff.1 hl).1
  have hy := run_yield (P := P) (args := encs x) hl (by rw [hrec];exact hps x)
  rw [hrec] at hy
  refine ⟨fn,_,assign,body,hy,roundIn_of_wpIn hfn (wpIn_mono (hround _ pre x W (Nat.le_succ _) hlt hi hsp) ?_)⟩
  clear hy
  rintro e a' Wa hq
  cases e with
  | normal =>
   obtain ⟨hka,hbody⟩ := hq
   have notC : ∀ k,w.heap.size ≤ k → k ∉ C := fun k h hm => by have := (hC k hm).1;omega
   have hla := (hka.block _ hlt (notC _ (by omega))).trans hl
   have hKa := (hka.block _ (by omega) (notC _ (by omega))).trans hk
   have hlta : w.heap.size + 1 < Wa.heap.size := (Array.getElem?_eq_some_iff.1 hla).1
   refine ⟨_,run_beginRound hla (by rw [hrec]),?_⟩
   have hT : Turned (w.heap.size + 1) Wa (Wa.putObj (w.heap.size + 1) (.loop { rec .ready none with state := .busy })) := ⟨_,_,hla,rfl⟩
   have hl2 : (Wa.putObj (w.heap.size + 1) (.loop { rec .ready none with state := .busy })).heap[w.heap.size + 1]? = some (.loop { rec .ready none with state := .busy }) := World.putObj_heap_same hlta
   have hk2 : (Wa.putObj (w.heap.size + 1) (.loop { rec .ready none with state := .busy })).heap[w.heap.size]? = some (.deferred (some [])) := (World.putObj_heap_other (by omega)).trans hKa
   have hka2 : Keeps W (Wa.putObj (w.heap.size + 1) (.loop { rec .ready none with state := .busy })) (C ++ [w.heap.size + 1]) :=
    (hka.mono (fun x hx => List.mem_append.2 (.inl hx))).trans hT.keeps (fun x hx _ => List.mem_append.2 (.inr hx))
   refine wpIn_mono (hbody _ hT) ?_
   have fin : ∀ (jump : Option Code) (W3 : World),Keeps (Wa.putObj (w.heap.size + 1) (.loop { rec .ready none with state := .busy })) W3 C →
     (Instr.endRound (w.heap.size + 1) jump).run P W3 = .ok (.bool jump.isNone) (W3.putObj (w.heap.size + 1) (.loop (rec (if jump.isNone then .ready else .done) jump))) ∧
     Below w.heap.size W3 (W3.putObj (w.heap.size + 1) (.loop (rec (if jump.isNone then .ready else .done) jump))) ∧
     (W3.putObj (w.heap.size + 1) (.loop (rec (if jump.isNone then .ready else .done) jump))).heap[w.heap.size + 1]? = some (.loop (rec (if jump.isNone then .ready else .done) jump)) ∧
     (W3.putObj (w.heap.size + 1) (.loop (rec (if jump.isNone then .ready else .done) jump))).heap[w.heap.size]? = some (.deferred (some [])) ∧
     Keeps W (W3.putObj (w.heap.size + 1) (.loop (rec (if jump.isNone then .ready else .done) jump))) (C ++ [w.heap.size + 1]) := fun jump W3 hk3 => by
    have hl3 := (hk3.block _ (by simp;omega) (notC _ (by omega))).trans hl2
    have hk3' := (hk3.block _ (by simp;omega) (notC _ (by omega))).trans hk2
    have hr := run_endRound (P := P) jump hl3
    have hT3 : Turned (w.heap.size + 1) W3 (W3.putObj (w.heap.size + 1) (.loop (rec (if jump.isNone then .ready else .done) jump))) := ⟨_,_,hl3,rfl⟩
    refine ⟨?_,hT3.below (Nat.le_succ _),World.putObj_heap_same (Array.getElem?_eq_some_iff.1 hl3).1,(World.putObj_heap_other (by omega)).trans hk3',?_⟩
    ·rw [hrec] at hr ⊢;exact hr
    ·exact (hka2.trans (hk3.mono (fun x hx => List.mem_append.2 (.inl hx))) (fun x hx _ => hx)).trans hT3.keeps (fun x hx _ => List.mem_append.2 (.inr hx))
   rintro e a3 W3 hp
   cases e with
   | normal =>
    obtain ⟨hk3,hi3⟩ := hp
    obtain ⟨hr,hb4,hl4,hk4,hkk⟩ := fin none W3 hk3
    exact ⟨_,_,hr,.inl ⟨rfl,⟨hI _ _ _ hi3 hb4,hl4,hk4⟩,hkk⟩⟩
   | ret =>
    obtain ⟨hk3,hi3⟩ := hp
    obtain ⟨hr,hb4,hl4,hk4,hkk⟩ := fin (some .ret) W3 hk3
    exact ⟨_,_,hr,.inr ⟨rfl,⟨.ret,hIx _ _ _ _ hi3 hb4,hl4,hk4⟩,hkk⟩⟩
   | exit id =>
    obtain ⟨hk3,hi3⟩ := hp
    obtain ⟨hr,hb4,hl4,hk4,hkk⟩ := fin (some (.exit id)) W3 hk3
    exact ⟨_,_,hr,.inr ⟨rfl,⟨.exit id,hIx _ _ _ _ hi3 hb4,hl4,hk4⟩,hkk⟩⟩
   | goto t =>
    obtain ⟨hk3,hi3⟩ := hp
    obtain ⟨hr,hb4,hl4,hk4,hkk⟩ := fin (some (.goto t)) W3 hk3
    exact ⟨_,_,hr,.inr ⟨rfl,⟨.goto t,hIx _ _ _ _ hi3 hb4,hl4,hk4⟩,hkk⟩⟩
   | panic ch => exact hp.elim
   | outgrown => exact hp.elim
  | exit id => exact hq.elim
  | goto t => exact hq.elim
  | ret => exact hq.elim
  | panic ch => exact hq.elim
  | outgrown => exact hq.elim
 ·-- behind the iterator
  rintro e W2 ⟨⟨v,rfl⟩,(⟨xs,hS,hi,hl,hk⟩ | ⟨pre,hSp,c,hi,hl,hk⟩)⟩
  ·exact ⟨none,_,by have := run_endLoop (P := P) hl (by rw [hrec];simp);rw [hrec] at this;exact this,hdone _ xs _ (Nat.le_refl _) hS (hI _ _ _ hi (turn _ hl)) ((World.putObj_heap_other (by omega)).trans hk)⟩
  ·exact ⟨some c,_,by have := run_endLoop (P := P) hl (by rw [hrec];simp);rw [hrec] at this;exact this,hstop _ c pre _ (Nat.le_refl _) hSp (hIx _ _ _ _ hi (turn _ hl)) ((World.putObj_heap_other (by omega)).trans hk)⟩

theorem range_P {α : Type} {P : Program} {g : Operand} {ps : Array Tmp} {assign body : Code} {Q : Exit → Act → World → Prop} {a : Act} {w : World}
  {gf : Nat} {lb : Array Value} (hg : a.eval g = .func (.func gf) #[] lb) (eg : ∀ args w,(callFunc gf args).run P w = .ok (.enter gf args) w)
  {encs : α → Array Value} {fine : Nat → Prop} {S Sp : List α → Prop} (hseq : SeqB P gf lb encs fine S Sp w)
  (C : List Nat) (hC : ∀ k ∈ C,k < w.heap.size ∧ fine k) (hfine : fine (w.heap.size + 1)) (hps : ∀ x,(encs x).size = ps.size)
  (I : List α → World → Prop) (Ix : Code → List α → World → Prop) (hI : ∀ s A B,I s A → Below w.heap.size A B → I s B) (hIx : ∀ c s A B,Ix c s A → Below w.heap.size A B → Ix c s B) (h0 : I [] w)
  (hround : ∀ (l : Nat) (pre : List α) (x : α) (W : World),w.heap.size ≤ l → l < W.heap.size → I pre W → Sp (pre ++ [x]) →
   assign.wpIn (Fence.wide.inRound l) 9 P (Exit.then (fun a' W' => Keeps W W' C ∧ ∀ W2,Turned l W' W2 → body.wpIn (Fence.wide.inRound l) 9 P (postB C I Ix (pre ++ [x]) W2) a' W2) (fun _ _ _ => False))
    { tmps := (ps.zip (encs x)).foldl (fun t (p,v) => t.setIfInBounds p v) a.tmps,defers := [] } W)
  (hdone : ∀ (D : Nat) (xs : List α) (W : World),w.heap.size ≤ D → S xs → I xs W → W.heap[D]? = some (.deferred (some [])) → Q .normal { a with defers := { target := .collected D,args := #[] } :: a.defers } W)
  (hstop : ∀ (D : Nat) (c : Code) (pre : List α) (W : World),w.heap.size ≤ D → Sp pre → Ix c pre W → W.heap[D]? = some (.deferred (some [])) → c.wp P Q { a with defers := { target := .collected D,args := #[] } :: a.defers } W) :
  (Code.rangeFunc g ps assign body).wp P Q a w :=
 (wpIn_wide (n := 9)).1 (range_B hg eg hseq C hC hfine hps I Ix hI hIx h0 hround hdone (fun D c pre W h1 h2 h3 h4 => wpIn_wide.2 (hstop D c pre W h1 h2 h3 h4)))
end

section
open Go.RowKit

structure BelowX (X : List Nat) (n : Nat) (w w' : World) : Prop where
 os : w'.os = w.os
 tape : w'.tape = w.tape
 output : w'.output = w.output
 size : w.heap.size ≤ w'.heap.size
 block : ∀ k,k < n → k ∉ X → w'.heap[k]? = w.heap[k]?
theorem BelowX.of {X : List Nat} {n : Nat} {w w' : World} (h : Below n w w') : BelowX X n w w' := ⟨h.os,h.tape,h.output,h.size,fun k hk _ => h.block k hk⟩
theorem BelowX.mono {X : List Nat} {n m : Nat} {w w' : World} (h : BelowX X n w w') (hm : m ≤ n) : BelowX X m w w' := ⟨h.os,h.tape,h.output,h.size,fun k hk hn => h.block k (by omega) hn⟩
def SeqX {α : Type} (P : Program) (g : Nat) (lb : Array Value) (encs : α → Array Value) (fine : Nat → Prop) (X : List Nat) (S Sp : List α → Prop) (w : World) : Prop :=
 ∀ (l : Nat) (C : List Nat) (J Jx : List α → World → Prop) (W : World),Below w.heap.size w W → (∀ k ∈ C,k < W.heap.size ∧ fine k) →
  (∀ s A B,J s A → BelowX X W.heap.size A B → J s B) → (∀ s A B,Jx s A → BelowX X W.heap.size A B → Jx s B) →
  (∀ pre x W1,J pre W1 → Sp (pre ++ [x]) → YieldAt Fence.wide 9 P l (encs x) W1 fun e W' =>
   (e = .returned (.bool true) ∧ J (pre ++ [x]) W' ∧ Keeps W1 W' C) ∨ (e = .returned (.bool false) ∧ Jx (pre ++ [x]) W' ∧ Keeps W1 W' C)) →
  J [] W →
  CallsIn Fence.wide 9 P g (#[.func (.yield l) #[] #[]] ++ lb) W fun e W' => (∃ v,e = .returned v) ∧ ((∃ xs,S xs ∧ J xs W') ∨ (∃ pre,Sp pre ∧ Jx pre W'))
end

section
open Go.RowKit

def SameAt (U : List Nat) (w w' : World) : Prop := ∀ k ∈ U,w'.heap[k]? = w.heap[k]?
theorem SameAt.refl (U : List Nat) (w : World) : SameAt U w w := fun _ _ => rfl
theorem SameAt.trans {U : List Nat} {w w' w'' : World} (h : SameAt U w w') (h' : SameAt U w' w'') : SameAt U w w'' := fun k hk => (h' k hk).trans (h k hk)
theorem SameAt.mono {U V : List Nat} {w w' : World} (h : SameAt U w w') (hs : ∀ k ∈ V,k ∈ U) : SameAt V w w' := fun k hk => h k (hs k hk)
theorem SameAt.of {U C : List Nat} {w w' : World} (h : Keeps w w' C) (hl : ∀ k ∈ U,k < w.heap.size) (hn : ∀ k ∈ U,k ∉ C) : SameAt U w w' := fun k hk => h.block k (hl k hk) (hn k hk)

def SeqY {α : Type} (P : Program) (g : Nat) (lb : Array Value) (encs : α → Array Value) (X : List Nat) (Fx : World → Prop) (S Sp : List α → Prop) (w : World) : Prop :=
 ∀ (l : Nat) (J Jx : List α → World → Prop) (W : World),SameAt X w W →
  (∀ s A B,J s A → Keeps A B X → J s B) → (∀ s A B,Jx s A → Keeps A B X → Jx s B) →
  (∀ pre x W1,J pre W1 → Fx W1 → Sp (pre ++ [x]) → YieldAt Fence.wide 9 P l (encs x) W1 fun e W' => SameAt X W1 W' ∧
   ((e = .returned (.bool true) ∧ J (pre ++ [x]) W') ∨ (e = .returned (.bool false) ∧ Jx (pre ++ [x]) W'))) →
  J [] W →
  CallsIn Fence.wide 9 P g (#[.func (.yield l) #[] #[]] ++ lb) W fun e W' => (∃ v,e = .returned v) ∧ ((∃ xs,S xs ∧ J xs W') ∨ (∃ pre,Sp pre ∧ Jx pre W'))

def postY {α : Type} (U : List Nat) (I : List α → World → Prop) (Ix : Code → List α → World → Prop) (xs : List α) (W : World) : Exit → Act → World → Prop
 | .normal,_,W' => SameAt U W W' ∧ I xs W'
 | .ret,_,W' => SameAt U W W' ∧ Ix .ret xs W'
 | .exit id,_,W' => SameAt U W W' ∧ Ix (.exit id) xs W'
 | .goto t,_,W' => SameAt U W W' ∧ Ix (.goto t) xs W'
 | .panic _,_,_ => False
 | .outgrown,_,_ => False

theorem same_put {U : List Nat} {W : World} {l : Nat} {o} (h : l ∉ U) : SameAt U W (W.putObj l o) := fun k hk => World.putObj_heap_other (fun e => h (e ▸ hk))
theorem keeps_put {W : World} {l : Nat} {o} : Keeps W (W.putObj l o) [l] := ⟨rfl,rfl,rfl,by simp,fun k _ hn => World.putObj_heap_other (by simpa using hn)⟩

theorem range_BY {α : Type} {P : Program} {n : Nat} {g : Operand} {ps : Array Tmp} {assign body : Code} {Q : Exit → Act → World → Prop} {a : Act} {w : World}
  {gf : Nat} {lb : Array Value} (hg : a.eval g = .func (.func gf) #[] lb) (eg : ∀ args w,(callFunc gf args).run P w = .ok (.enter gf args) w)
  {encs : α → Array Value} {X : List Nat} {Fx : World → Prop} {S Sp : List α → Prop} (hseq : SeqY P gf lb encs X Fx S Sp w)
  (hX : ∀ k ∈ X,k < w.heap.size) (hps : ∀ x,(encs x).size = ps.size)
  (I : List α → World → Prop) (Ix : Code → List α → World → Prop) (hI : ∀ s A B,I s A → Keeps A B (X ++ [w.heap.size,w.heap.size + 1]) → I s B) (hIx : ∀ c s A B,Ix c s A → Keeps A B (X ++ [w.heap.size,w.heap.size + 1]) → Ix c s B) (h0 : I [] w)
  (hround : ∀ (l : Nat) (pre : List α) (x : α) (W : World),l = w.heap.size + 1 → l < W.heap.size → W.heap[w.heap.size]? = some (.deferred (some [])) → Fx W → I pre W → Sp (pre ++ [x]) →
   assign.wpIn (Fence.wide.inRound l) 9 P (Exit.then (fun a' W' => SameAt (X ++ [w.heap.size,w.heap.size + 1]) W W' ∧ ∀ W2,Turned l W' W2 → body.wpIn (Fence.wide.inRound l) 9 P (postY (X ++ [w.heap.size,w.heap.size + 1]) I Ix (pre ++ [x]) W2) a' W2) (fun _ _ _ => False))
    { tmps := (ps.zip (encs x)).foldl (fun t (p,v) => t.setIfInBounds p v) a.tmps,defers := [] } W)
  (hdone : ∀ (D : Nat) (xs : List α) (W : World),w.heap.size ≤ D → S xs → I xs W → W.heap[D]? = some (.deferred (some [])) → Q .normal { a with defers := { target := .collected D,args := #[] } :: a.defers } W)
  (hstop : ∀ (D : Nat) (c : Code) (pre : List α) (W : World),w.heap.size ≤ D → Sp pre → Ix c pre W → W.heap[D]? = some (.deferred (some [])) → c.wpIn Fence.wide n P Q { a with defers := { target := .collected D,args := #[] } :: a.defers } W) :
  (Code.rangeFunc g ps assign body).wpIn Fence.wide n P Q a w := by
 refine wpIn_rangeFunc ?_
 intro fn hfn
 obtain ⟨rec,hrec⟩ : ∃ rec : LoopState → Option Code → Loop,rec = fun st pe => { state := st,pending := pe,fn,tmps := a.tmps,params := ps,assign,body,defers := w.heap.size } := ⟨_,rfl⟩
 obtain ⟨W1,hW1⟩ : ∃ W1,(w.alloc (.deferred (some []))).alloc (.loop (rec .ready none)) = W1 := ⟨_,rfl⟩
 have hs1 : W1.heap.size = w.heap.size + 2 := by rw [← hW1];simp
 have hB1 : Below w.heap.size w W1 := by rw [← hW1];exact ((Below.refl _ w).alloc (Nat.le_refl _) _).alloc (by simp) _
 have hL1 : W1.heap[w.heap.size + 1]? = some (.loop (rec .ready none)) := by
  rw [← hW1];have := World.alloc_heap_new (w.alloc (.deferred (some []))) (.loop (rec .ready none));rwa [World.size_alloc] at this
 have hK1 : W1.heap[w.heap.size]? = some (.deferred (some [])) := by
  rw [← hW1];exact (Below.heap_alloc _ _ _ (by simp)).trans (World.alloc_heap_new w _)
 refine ⟨w.heap.size + 1,[{ target := .collected w.heap.size,args := #[] }],W1,{ target := .fn (.func gf) lb,args := #[.func (.yield (w.heap.size + 1)) #[] #[]] },W1,gf,
  #[.func (.yield (w.heap.size + 1)) #[] #[]] ++ lb,W1,?_,?_,fun _ _ => trivial,?_,fun h => by simp [Fence.wide] at h,callsIn_any (n := 9) ?_⟩
 ·rw [← hW1,hrec];exact run_enterLoop_outer _ _ _ _ _
 ·simp only [resolve,hg]
  simp [go_sem]
 ·simp [invoke,go_sem,eg]
 have nX : ∀ k,w.heap.size ≤ k → k ∉ X := fun k h hm => by have := hX k hm;omega
 have hU : ∀ k ∈ X,k ∈ X ++ [w.heap.size,w.heap.size + 1] := fun k hk => List.mem_append.2 (.inl hk)
 have hl' : w.heap.size + 1 ∈ X ++ [w.heap.size,w.heap.size + 1] := by simp
 have hd' : w.heap.size ∈ X ++ [w.heap.size,w.heap.size + 1] := by simp
 have stay : ∀ {A B : World} {o : Obj} {k : Nat},A.heap[k]? = some o → w.heap.size ≤ k → Keeps A B X → B.heap[k]? = some o := fun h hk hb => (hb.block _ (Array.getElem?_eq_some_iff.1 h).1 (nX _ hk)).trans h
 refine (hseq (w.heap.size + 1)
  (fun pre W => I pre W ∧ W.heap[w.heap.size + 1]? = some (.loop (rec .ready none)) ∧ W.heap[w.heap.size]? = some (.deferred (some [])))
  (fun pre W => ∃ c,Ix c pre W ∧ W.heap[w.heap.size + 1]? = some (.loop (rec .done (some c))) ∧ W.heap[w.heap.size]? = some (.deferred (some [])))
  W1 (fun k hk => hB1.block k (hX k hk)) ?_ ?_ ?_ ⟨hI _ _ _ h0 ((Keeps.of_below hB1).mono (by simp)),hL1,hK1⟩).mono ?_
 ·rintro s A B ⟨hi,hl,hk⟩ hb
  exact ⟨hI _ _ _ hi (hb.mono hU),stay hl (by omega) hb,stay hk (by omega) hb⟩
 ·rintro s A B ⟨c,hi,hl,hk⟩ hb
  exact ⟨c,hIx _ _ _ _ hi (hb.mono hU),stay hl (by omega) hb,stay hk (by omega) hb⟩
 ·-- one round
  rintro pre x W ⟨hi,hl,hk⟩ hfx hsp
  have hlt : w.heap.size + 1 < W.heap.size := (Array.getElem?_eq_some_iff.1 hl).1
  have hy := run_yield (P := P) (args := encs x) hl (by rw [hrec];exact hps x)
  rw [hrec] at hy
  refine ⟨fn,_,assign,body,hy,roundIn_of_wpIn hfn (wpIn_mono (hround _ pre x W rfl hlt hk hfx hi hsp) ?_)⟩
  clear hy
  rintro e a' Wa hq
  cases e with
  | normal =>
   obtain ⟨hka,hbody⟩ := hq
   have hla := (hka _ hl').trans hl
   have hKa := (hka _ hd').trans hk
   have hlta : w.heap.size + 1 < Wa.heap.size := (Array.getElem?_eq_some_iff.1 hla).1
   refine ⟨_,run_beginRound hla (by rw [hrec]),?_⟩
   have hT : Turned (w.heap.size + 1) Wa (Wa.putObj (w.heap.size + 1) (.loop { rec .ready none with state := .busy })) := ⟨_,_,hla,rfl⟩
   have hl2 : (Wa.putObj (w.heap.size + 1) (.loop { rec .ready none with state := .busy })).heap[w.heap.size + 1]? = some (.loop { rec .ready none with state := .busy }) := World.putObj_heap_same hlta
   have hk2 : (Wa.putObj (w.heap.size + 1) (.loop { rec .ready none with state := .busy })).heap[w.heap.size]? = some (.deferred (some [])) := (World.putObj_heap_other (by omega)).trans hKa
   have hka2 : SameAt X W (Wa.putObj (w.heap.size + 1) (.loop { rec .ready none with state := .busy })) := (hka.mono hU).trans (same_put (nX _ (by omega)))
   refine wpIn_mono (hbody _ hT) ?_
   have fin : ∀ (jump : Option Code) (W3 : World),SameAt (X ++ [w.heap.size,w.heap.size + 1]) (Wa.putObj (w.heap.size + 1) (.loop { rec .ready none with state := .busy })) W3 →
     (Instr.endRound (w.heap.size + 1) jump).run P W3 = .ok (.bool jump.isNone) (W3.putObj (w.heap.size + 1) (.loop (rec (if jump.isNone then .ready else .done) jump))) ∧
     Keeps W3 (W3.putObj (w.heap.size + 1) (.loop (rec (if jump.isNone then .ready else .done) jump))) (X ++ [w.heap.size,w.heap.size + 1]) ∧
     (W3.putObj (w.heap.size + 1) (.loop (rec (if jump.isNone then .ready else .done) jump))).heap[w.heap.size + 1]? = some (.loop (rec (if jump.isNone then .ready else .done) jump)) ∧
     (W3.putObj (w.heap.size + 1) (.loop (rec (if jump.isNone then .ready else .done) jump))).heap[w.heap.size]? = some (.deferred (some [])) ∧
     SameAt X W (W3.putObj (w.heap.size + 1) (.loop (rec (if jump.isNone then .ready else .done) jump))) := fun jump W3 hk3 => by
    have hl3 := (hk3 _ hl').trans hl2
    have hk3' := (hk3 _ hd').trans hk2
    have hr := run_endRound (P := P) jump hl3
    refine ⟨?_,keeps_put.mono (by simp),World.putObj_heap_same (Array.getElem?_eq_some_iff.1 hl3).1,(World.putObj_heap_other (by omega)).trans hk3',?_⟩
    ·rw [hrec] at hr ⊢;exact hr
    ·exact (hka2.trans (hk3.mono hU)).trans (same_put (nX _ (by omega)))
   rintro e a3 W3 hp
   cases e with
   | normal =>
    obtain ⟨hk3,hi3⟩ := hp
    obtain ⟨hr,hb4,hl4,hk4,hkk⟩ := fin none W3 hk3
    exact ⟨_,_,hr,hkk,.inl ⟨rfl,hI _ _ _ hi3 hb4,hl4,hk4⟩⟩
   | ret =>
    obtain ⟨hk3,hi3⟩ := hp
    obtain ⟨hr,hb4,hl4,hk4,hkk⟩ := fin (some .ret) W3 hk3
    exact ⟨_,_,hr,hkk,.inr ⟨rfl,.ret,hIx _ _ _ _ hi3 hb4,hl4,hk4⟩⟩
   | exit id =>
    obtain ⟨hk3,hi3⟩ := hp
    obtain ⟨hr,hb4,hl4,hk4,hkk⟩ := fin (some (.exit id)) W3 hk3
    exact ⟨_,_,hr,hkk,.inr ⟨rfl,.exit id,hIx _ _ _ _ hi3 hb4,hl4,hk4⟩⟩
   | goto t =>
    obtain ⟨hk3,hi3⟩ := hp
    obtain ⟨hr,hb4,hl4,hk4,hkk⟩ := fin (some (.goto t)) W3 hk3
    exact ⟨_,_,hr,hkk,.inr ⟨rfl,.goto t,hIx _ _ _ _ hi3 hb4,hl4,hk4⟩⟩
   | panic ch => exact hp.elim
   | outgrown => exact hp.elim
  | exit id => exact hq.elim
  | goto t => exact hq.elim
  | ret => exact hq.elim
  | panic ch => exact hq.elim
  | outgrown => exact hq.elim
 ·-- behind the iterator
  rintro e W2 ⟨⟨v,rfl⟩,(⟨xs,hS,hi,hl,hk⟩ | ⟨pre,hSp,c,hi,hl,hk⟩)⟩
  ·exact ⟨none,_,by have := run_endLoop (P := P) hl (by rw [hrec];simp);rw [hrec] at this;exact this,hdone _ xs _ (Nat.le_refl _) hS (hI _ _ _ hi (keeps_put.mono (by simp))) ((World.putObj_heap_other (by omega)).trans hk)⟩
  ·exact ⟨some c,_,by have := run_endLoop (P := P) hl (by rw [hrec];simp);rw [hrec] at this;exact this,hstop _ c pre _ (Nat.le_refl _) hSp (hIx _ _ _ _ hi (keeps_put.mono (by simp))) ((World.putObj_heap_other (by omega)).trans hk)⟩

theorem range_PY0 {α : Type} {P : Program} {g : Operand} {ps : Array Tmp} {assign body : Code} {Q : Exit → Act → World → Prop} {a : Act} {w : World}
  {gf : Nat} {lb : Array Value} (hg : a.eval g = .func (.func gf) #[] lb) (eg : ∀ args w,(callFunc gf args).run P w = .ok (.enter gf args) w)
  {encs : α → Array Value} {X : List Nat} {Fx : World → Prop} {S Sp : List α → Prop} (hseq : SeqY P gf lb encs X Fx S Sp w)
  (hX : ∀ k ∈ X,k < w.heap.size) (hps : ∀ x,(encs x).size = ps.size)
  (I : List α → World → Prop) (Ix : Code → List α → World → Prop) (hI : ∀ s A B,I s A → Keeps A B (X ++ [w.heap.size,w.heap.size + 1]) → I s B) (hIx : ∀ c s A B,Ix c s A → Keeps A B (X ++ [w.heap.size,w.heap.size + 1]) → Ix c s B) (h0 : I [] w)
  (hround : ∀ (l : Nat) (pre : List α) (x : α) (W : World),l = w.heap.size + 1 → l < W.heap.size → W.heap[w.heap.size]? = some (.deferred (some [])) → Fx W → I pre W → Sp (pre ++ [x]) →
   assign.wpIn (Fence.wide.inRound l) 9 P (Exit.then (fun a' W' => SameAt (X ++ [w.heap.size,w.heap.size + 1]) W W' ∧ ∀ W2,Turned l W' W2 → body.wpIn (Fence.wide.inRound l) 9 P (postY (X ++ [w.heap.size,w.heap.size + 1]) I Ix (pre ++ [x]) W2) a' W2) (fun _ _ _ => False))
    { tmps := (ps.zip (encs x)).foldl (fun t (p,v) => t.setIfInBounds p v) a.tmps,defers := [] } W)
  (hdone : ∀ (D : Nat) (xs : List α) (W : World),w.heap.size ≤ D → S xs → I xs W → W.heap[D]? = some (.deferred (some [])) → Q .normal { a with defers := { target := .collected D,args := #[] } :: a.defers } W)
  (hstop : ∀ (D : Nat) (c : Code) (pre : List α) (W : World),w.heap.size ≤ D → Sp pre → Ix c pre W → W.heap[D]? = some (.deferred (some [])) → c.wp P Q { a with defers := { target := .collected D,args := #[] } :: a.defers } W) :
  (Code.rangeFunc g ps assign body).wp P Q a w :=
 (wpIn_wide (n := 9)).1 (range_BY hg eg hseq hX hps I Ix hI hIx h0 hround hdone (fun D c pre W h1 h2 h3 h4 => wpIn_wide.2 (hstop D c pre W h1 h2 h3 h4)))

theorem range_PY {α : Type} {P : Program} {g : Operand} {ps : Array Tmp} {assign body : Code} {Q : Exit → Act → World → Prop} {a : Act} {w : World}
  {gf : Nat} {lb : Array Value} (hg : a.eval g = .func (.func gf) #[] lb) (eg : ∀ args w,(callFunc gf args).run P w = .ok (.enter gf args) w)
  {encs : α → Array Value} {X : List Nat} {Fx : World → Prop} {S Sp : List α → Prop} (hseq : SeqY P gf lb encs X Fx S Sp w)
  (hX : ∀ k ∈ X,k < w.heap.size) (hps : ∀ x,(encs x).size = ps.size) (id : Nat)
  (I Ix : List α → World → Prop) (F : World → Prop) (hI : ∀ s A B,I s A → Keeps A B (X ++ [w.heap.size,w.heap.size + 1]) → I s B) (hIx : ∀ s A B,Ix s A → Keeps A B (X ++ [w.heap.size,w.heap.size + 1]) → Ix s B) (h0 : I [] w)
  (hround : ∀ (l : Nat) (pre : List α) (x : α) (W : World),l = w.heap.size + 1 → l < W.heap.size → W.heap[w.heap.size]? = some (.deferred (some [])) → Fx W → I pre W → Sp (pre ++ [x]) →
   assign.wpIn (Fence.wide.inRound l) 9 P (Exit.then (fun a' W' => SameAt (X ++ [w.heap.size,w.heap.size + 1]) W W' ∧ ∀ W2,Turned l W' W2 → body.wpIn (Fence.wide.inRound l) 9 P (postY (X ++ [w.heap.size,w.heap.size + 1]) I (fun c s A => c = .exit id ∧ Ix s A) (pre ++ [x]) W2) a' W2) (fun _ _ _ => False))
    { tmps := (ps.zip (encs x)).foldl (fun t (p,v) => t.setIfInBounds p v) a.tmps,defers := [] } W)
  (hdone : ∀ (xs : List α) (W : World),S xs → I xs W → F W) (hstop : ∀ (pre : List α) (W : World),Sp pre → Ix pre W → F W)
  (hex : ∀ a' W,Q .normal a' W → Q (.exit id) a' W)
  (hrest : ∀ (D : Nat) (W : World),w.heap.size ≤ D → W.heap[D]? = some (.deferred (some [])) → F W → Q .normal { a with defers := { target := .collected D,args := #[] } :: a.defers } W) :
  (Code.rangeFunc g ps assign body).wp P Q a w :=
 range_PY0 hg eg hseq hX hps I (fun c s A => c = .exit id ∧ Ix s A) hI (fun c s A B h hb => ⟨h.1,hIx s A B h.2 hb⟩) h0 hround
  (fun D xs W hD hS hi hK => hrest D W hD hK (hdone xs W hS hi))
  (fun D c pre W hD hS ⟨hc,hi⟩ hK => by subst hc;exact wp_exit (hex _ _ (hrest D W hD hK (hstop pre W hS hi))))
end

section
/-! ### Validity, sums, used symbols -/
def usedF : Nat → List Int → List Int
 | _,[] => []
 | i,x :: l => if 0 < x then (i : Int) :: usedF (i + 1) l else usedF (i + 1) l
def usedL (l : List Int) : List Int := usedF 0 l

theorem take_next {l : List Int} {k : Nat} {x : Int} (h : l[k]? = some x) : l.take (k + 1) = l.take k ++ [x] := by
 rw [List.take_add_one,h];rfl
theorem usedF_snoc (i : Nat) (l : List Int) (x : Int) : usedF i (l ++ [x]) = usedF i l ++ (if 0 < x then [((i + l.length : Nat) : Int)] else []) := by
 induction l generalizing i with
 | nil => simp only [List.nil_append,usedF];split <;> simp
 | cons y l ih =>
  simp only [List.cons_append,usedF,ih,List.length_cons]
  rw [show i + 1 + l.length = i + (l.length + 1) by omega]
  split <;> simp
theorem usedL_snoc (l : List Int) (x : Int) : usedL (l ++ [x]) = usedL l ++ (if 0 < x then [(l.length : Int)] else []) := by
 unfold usedL;rw [usedF_snoc];simp
theorem usedF_len (i : Nat) (l : List Int) : (usedF i l).length ≤ l.length := by
 induction l generalizing i with
 | nil => simp [usedF]
 | cons y l ih =>
  simp only [usedF]
  have := ih (i + 1)
  split <;> simp <;> omega
theorem usedL_len (l : List Int) : (usedL l).length ≤ l.length := usedF_len 0 l
/-! ### The logarithm -/
theorem log2_lt {n : Nat} (h : n ≤ 4611686018427387903) : n.log2 ≤ 61 := by
 by_cases h0 : n = 0
 ·subst h0;simp
 ·have := (Nat.log2_lt h0 (k := 62)).2 (by omega)
  omega
/-! ### The cost -/
end

section
def varI (n : Nat) : List Int := if h : n < 128 then [(n : Int)] else ((n % 128 + 128 : Nat) : Int) :: varI (n / 128)
termination_by n
decreasing_by omega
theorem varI_small {n : Nat} (h : n < 128) : varI n = [(n : Int)] := by rw [varI,dif_pos h]
theorem varI_step {n : Nat} (h : 128 ≤ n) : varI n = ((n % 128 + 128 : Nat) : Int) :: varI (n / 128) := by rw [varI,dif_neg (by omega)]
theorem varI_pos (n : Nat) : 0 < (varI n).length := by
 rw [varI];split <;> simp
theorem varI_len (d : Nat) : ∀ n : Nat,n < 128 ^ (d + 1) → (varI n).length ≤ d + 1 := by
 induction d with
 | zero => intro n h;rw [varI_small (by simpa using h)];simp
 | succ d ih =>
  intro n h
  by_cases hn : n < 128
  ·rw [varI_small hn];simp
  ·rw [varI_step (by omega),List.length_cons]
   have := ih (n / 128) (by rw [Nat.pow_succ] at h;omega)
   omega
theorem varI_byte {n : Nat} {x : Int} (h : x ∈ varI n) : 0 ≤ x ∧ x ≤ 255 := by
 induction n using Nat.strongRecOn with
 | _ n ih =>
  by_cases hn : n < 128
  ·rw [varI_small hn] at h
   rw [List.mem_singleton.1 h];omega
  ·rw [varI_step (by omega)] at h
   rcases List.mem_cons.1 h with h | h
   ·rw [h];omega
   ·exact ih _ (by omega) h
end

section
open Go.ChangeShapes Go.WideShapes Go.ChangeAt Go.RowKit

theorem Tryz.own : ownKnob Tryz.prog.godebug = none := by kernel_rfl
theorem Tryz.laidOut : laidOutB Tryz.prog = true := by kernel_rfl

theorem trodAll_grown {H : Type} {enc : TypeId × Value → H} {P : Program} (hl : laidOutB P = true) {W W' : World} (hb : Below W.heap.size W W') (sp : Nat → Bool) :
  ∀ {ts : List TypeId} {vs : List Value} {ds : List (DataW H)} {ps : List MemPlace},(∀ t ∈ ts,P.readableRec t = true ∧ t < P.types.size) →
   DataW.TrodAll enc P W 0 (fun _ => true) true ts vs ds ps → (∀ x ∈ ps,x.block < W.heap.size) → (∀ x ∈ ps,sp x.block = true) → DataW.TrodAll enc P W' 0 sp true ts vs ds ps
 | [],[],[],_,_,h,_,_ => h
 | t :: ts,v :: vs,d :: ds,ps,ht,h,hlt,hs => by
  obtain ⟨p,q,h1,h2,rfl⟩ := h
  refine ⟨p,q,?_,?_,rfl⟩
  ·exact WideElems.Trod_stays hl (ht t (by simp)).1 (ht t (by simp)).2 h1 (fun x hx => hb.same (hlt x (by simp [hx]))) (fun x hx => hs x (by simp [hx]))
  ·exact trodAll_grown hl hb sp (fun t' h' => ht t' (by simp [h'])) h2 (fun x hx => hlt x (by simp [hx])) (fun x hx => hs x (by simp [hx]))
 | [],[],_ :: _,_,_,h,_,_ => by cases h
 | [],_ :: _,_,_,_,h,_,_ => by cases h
 | _ :: _,[],_,_,_,h,_,_ => by cases h
 | _ :: _,_ :: _,[],_,_,h,_,_ => by cases h

theorem trodAll_count {H : Type} {enc : TypeId × Value → H} {P : Program} {W : World} {sp : Nat → Bool} :
  ∀ {ts : List TypeId} {vs : List Value} {ds : List (DataW H)} {ps : List MemPlace},DataW.TrodAll enc P W 0 sp true ts vs ds ps → ds.length = ts.length
 | [],[],[],_,_ => rfl
 | t :: ts,v :: vs,d :: ds,ps,h => by obtain ⟨p,q,_,h2,_⟩ := h;simp [trodAll_count h2]
 | [],[],_ :: _,_,h => by cases h
 | [],_ :: _,_,_,h => by cases h
 | _ :: _,[],_,_,h => by cases h
 | _ :: _,_ :: _,[],_,h => by cases h

def LawEnd (W : World) (e : Ending) (W' : World) : Prop := e = .returned (.bool true) ∧ Below W.heap.size W W'

theorem law_post {H : Type} {enc : TypeId × Value → H} {P : Program} {fn : Func} {s : ChangeSpec} (hl : laidOutB P = true) (hv : s.vars = [])
  (hs : ∀ ds : List (DataW H),ds.length = fn.params.toList.length → s.fn H ds = { results := [.lit (.bool true)],args := ds })
  (hr : ∀ t ∈ fn.params.toList,P.readableRec t = true ∧ t < P.types.size) {tb : TypeId} (hres : fn.resultTypes = #[tb]) (hb : P.underlying tb = some .bool)
  {W W' : World} {args : Array Value} {ds gs : List (DataW H)} {before : List MemPlace} (hW : DataW.Whole enc P fn.params.toList s.vars false W args.toList ds gs before)
  (hB : Below W.heap.size W W') : s.post enc P fn false true false false W args (.bool true) W' := by
 have hlt := hW.lt
 have hW0 := hW
 obtain ⟨p,q,hA,hV,rfl,hz,hn⟩ := hW
 rw [hv] at hV
 have hg : gs = [] ∧ q = [] := by
  cases gs with
  | nil => exact ⟨rfl,hV⟩
  | cons a b => cases hV
 obtain ⟨rfl,rfl⟩ := hg
 have e1 : s.fn H (ds ++ []) = { results := [.lit (.bool true)],args := ds } := by rw [List.append_nil];exact hs ds (trodAll_count hA)
 refine ⟨ds,[],p ++ [],[],p,[],hW0,?_,?_,?_,?_,fun h => by cases h⟩
 ·rw [e1,hres]
  exact trodAll_mk1 (shut_bool hb _)
 ·rw [e1]
  exact trodAll_grown hl hB _ hr hA (fun x hx => hlt x (by simp [hx])) (fun x hx => by simpa using hlt x (by simp [hx]))
 ·rw [e1,hv]
  exact rfl
 ·exact hB.frame _

theorem law_contract {H : Type} {enc : TypeId × Value → H} {C : Checked} {f : FuncId} {fn : Func} {s : ChangeSpec} {conds : List PathCond} {a : Assume} (hl : laidOutB C.prog = true) (hv : s.vars = [])
  (hs : ∀ ds : List (DataW H),ds.length = fn.params.toList.length → s.fn H ds = { results := [.lit (.bool true)],args := ds })
  (hr : ∀ t ∈ fn.params.toList,C.prog.readableRec t = true ∧ t < C.prog.types.size) {tb : TypeId} (hres : fn.resultTypes = #[tb]) (hb : C.prog.underlying tb = some .bool)
  (walk : ∀ (W : World) (base : Nat) (args : Array Value) (ds : List (DataW H)) (ps : List MemPlace),
   (∀ (j : Nat) t v,fn.params[j]? = some t → args[j]? = some v → Value.okWide C.prog W .any base t v) →
   DataW.TrodAll enc C.prog W 0 (fun _ => true) true fn.params.toList args.toList ds ps → (∀ x ∈ ps,x.block < W.heap.size) → W.noneFrozen ps →
   Calls C.prog f args W (LawEnd W)) :
  ∀ (W : World) (base : Nat) (args : Array Value) (ds gs : List (DataW H)) (before : List MemPlace),
   (∀ (j : Nat) t v,fn.params[j]? = some t → args[j]? = some v → Value.okWide C.prog W .any base t v) →
   DataW.Whole enc C.prog fn.params.toList s.vars false W args.toList ds gs before →
   conds.all (PathCond.test C.prog ⟨fn.params.toList,ds,s.plain.varTypes C.prog,gs⟩) = true →
   a.holds C.prog (lone (Frame.enter C.prog f args .normal) [] W) →
   Calls C.prog f args W fun e W' => ∃ v,e = .returned v ∧ s.post enc C.prog fn false true false false W args v W' := by
 intro W base args ds gs before hval hW _ _
 have hlt := hW.lt
 have hW0 := hW
 obtain ⟨p,q,hA,hV,rfl,hz,hn⟩ := hW
 refine (walk W base args ds p hval hA (fun x hx => hlt x (by simp [hx])) (fun b o h => hz b o (by simp [h]))).mono fun e W' h => ?_
 exact ⟨_,h.1,law_post hl hv hs hr hres hb hW0 h.2⟩
end

section
open Go.ChangeShapes Go.WideShapes Go.ChangeAt Go.RowKit

structure RdI (k : IntKind) (w : World) (v : Value) (l : List Int) : Prop where
 form : ∃ a n cp,v = .slice a n cp ∧ n = l.length ∧ (a = none → n = 0 ∧ cp = 0) ∧ (0 < n → n ≤ cp ∧ ∃ b o,a = some ⟨b,o,none⟩ ∧ b < w.heap.size ∧ ∀ i x,l[i]? = some x → w.cell? ⟨b,o + i,none⟩ = some (.int k x))

section
variable {k : IntKind} {w w' : World} {v : Value} {l : List Int} {a : Option Addr} {n cp : Nat}

theorem RdI.nil : RdI k w (.slice none 0 0) [] := ⟨_,_,_,rfl,rfl,fun _ => ⟨rfl,rfl⟩,fun h => absurd h (by omega)⟩
theorem RdI.zero (a : Addr) (c : Nat) : RdI k w (.slice (some a) 0 c) [] := ⟨_,_,_,rfl,rfl,(fun h => by cases h),fun h => absurd h (by omega)⟩
theorem RdI.keeps (h : RdI k w v l) (kk : Keeps w w' []) : RdI k w' v l := by
 obtain ⟨a,n,cp,rfl,hn,h0,hc⟩ := h.form
 refine ⟨a,n,cp,rfl,hn,h0,fun hp => ?_⟩
 obtain ⟨h1,b,o,h2,h3,h4⟩ := hc hp
 exact ⟨h1,b,o,h2,Nat.lt_of_lt_of_le h3 kk.size,fun i x hx => (kk.cell h3 (by simp)).trans (h4 i x hx)⟩
theorem RdI.keepsS {S : List Nat} (h : RdI k w v l) (kk : Keeps w w' S) (hn : ∀ ad n cp,v = .slice (some ad) n cp → 0 < n → ad.block ∉ S) : RdI k w' v l := by
 obtain ⟨a,n,cp,rfl,hl,h0,hc⟩ := h.form
 refine ⟨a,n,cp,rfl,hl,h0,fun hp => ?_⟩
 obtain ⟨h1,b,o,rfl,h3,h4⟩ := hc hp
 exact ⟨h1,b,o,rfl,Nat.lt_of_lt_of_le h3 kk.size,fun i x hx => (kk.cell (p := ⟨b,o + i,none⟩) h3 (fun hm => hn _ _ _ rfl hp hm)).trans (h4 i x hx)⟩
theorem RdI.len (h : RdI k w (.slice a n cp) l) : n = l.length := by
 obtain ⟨a',n',cp',he,hl,-⟩ := h.form
 obtain ⟨h1,h2,h3⟩ := Value.slice.inj he
 rw [h2,hl]
theorem RdI.cap (h : RdI k w (.slice a n cp) l) : n ≤ cp := by
 obtain ⟨a',n',cp',he,hl,h0,hc⟩ := h.form
 obtain ⟨h1,h2,h3⟩ := Value.slice.inj he
 subst h1 h2 h3
 by_cases hp : 0 < n
 ·exact (hc hp).1
 ·omega
theorem RdI.nilcap (h : RdI k w (.slice none n cp) l) : n = 0 ∧ cp = 0 ∧ l = [] := by
 obtain ⟨a',n',cp',he,hl,h0,hc⟩ := h.form
 obtain ⟨h1,h2,h3⟩ := Value.slice.inj he
 subst h1 h2 h3
 obtain ⟨e1,e2⟩ := h0 rfl
 exact ⟨e1,e2,List.eq_nil_of_length_eq_zero (by omega)⟩
theorem RdI.at (h : RdI k w (.slice a n cp) l) {i : Nat} {x : Int} (hx : l[i]? = some x) : ∃ b o,a = some ⟨b,o,none⟩ ∧ b < w.heap.size ∧ w.cell? ⟨b,o + i,none⟩ = some (.int k x) := by
 obtain ⟨a',n',cp',he,hl,h0,hc⟩ := h.form
 obtain ⟨h1,h2,h3⟩ := Value.slice.inj he
 subst h1 h2 h3
 have hlt := (List.getElem?_eq_some_iff.1 hx).1
 obtain ⟨_,b,o,h2,h3,h4⟩ := hc (by omega)
 exact ⟨b,o,h2,h3,h4 i x hx⟩
theorem RdI.addr (h : RdI k w (.slice a n cp) l) (hp : 0 < n) : ∃ b o,a = some ⟨b,o,none⟩ ∧ b < w.heap.size ∧ ∀ i x,l[i]? = some x → w.cell? ⟨b,o + i,none⟩ = some (.int k x) := by
 obtain ⟨a',n',cp',he,hl,h0,hc⟩ := h.form
 obtain ⟨h1,h2,h3⟩ := Value.slice.inj he
 subst h1 h2 h3
 exact (hc hp).2
theorem RdI.drewN (h : RdI k w v l) (m : Nat) : RdI k (w.drewN m) v l := h.keeps ((Keeps.refl w []).drewN m)

theorem own_form {base : Nat} {e : TypeId} {size : Nat} {xs : List Value} (h : w.ownsRow base e size v n xs) : ∃ ad cp,v = .slice ad n cp := by
 rcases h.2 with ⟨rfl,rfl⟩ | ⟨g,cp,cur,rfl,-⟩
 ·exact ⟨_,_,rfl⟩
 ·exact ⟨_,_,rfl⟩
theorem own_keeps {base : Nat} {e : TypeId} {size : Nat} {xs : List Value} (h : w.ownsRow base e size v n xs) (kk : Keeps w w' []) : w'.ownsRow base e size v n xs :=
 h.kept (row := none) ⟨kk.os,kk.tape,kk.output,kk.size,fun i hi _ => kk.block i hi (by simp)⟩ (by cases hv : v.ownBlock <;> simp)
theorem own_base {base base' : Nat} {e : TypeId} {size : Nat} {xs : List Value} (h : w.ownsRow base e size v n xs) (hb : base' ≤ base) : w.ownsRow base' e size v n xs := by
 obtain ⟨h1,h2⟩ := h
 refine ⟨h1,?_⟩
 rcases h2 with h2 | ⟨g,cap,cur,rfl,hg,r⟩
 ·exact .inl h2
 ·exact .inr ⟨g,cap,cur,rfl,by omega,r⟩
theorem own_reads {base : Nat} {e : TypeId} (h : w.ownsRow base e 1 v l.length (l.map (.int k))) : RdI k w v l := by
 rcases h.2 with ⟨rfl,h0⟩ | ⟨g,cp,cur,rfl,hb,hg,hn,hm,hs,ht⟩
 ·exact ⟨_,_,_,rfl,h0.symm,fun _ => ⟨rfl,rfl⟩,fun h => absurd h (by omega)⟩
 ·refine ⟨_,_,_,rfl,rfl,(fun h => by cases h),fun h0 => ⟨hn,g,0,rfl,(Array.getElem?_eq_some_iff.1 hg).1,fun i x hx => ?_⟩⟩
  have hlt := (List.getElem?_eq_some_iff.1 hx).1
  rw [Nat.zero_add,cell_of_row w g i cur e (0,0) hg]
  have h1 : (cur.toList.take (l.length * 1))[i]? = (l.map (Value.int k))[i]? := by rw [ht]
  rw [List.getElem?_take,if_pos (by omega),List.getElem?_map,hx] at h1
  simpa using h1
theorem RdI.news {ad : Addr} (h : RdI k w (.slice (some ad) n cp) l) : ∀ j u,(l.map (Value.int k))[j]? = some u → w.cell? (ad.add j) = some u := by
 intro j u hj
 rw [List.getElem?_map] at hj
 obtain ⟨x,hx,rfl⟩ := Option.map_eq_some_iff.1 hj
 obtain ⟨b,o,h2,h3,h4⟩ := h.at hx
 cases h2
 have : (⟨b,o,none⟩ : Addr).add j = ⟨b,o + j,none⟩ := by simp [Addr.add]
 rw [this]
 exact h4
end

theorem nums_one (k : IntKind) (l : List Int) : ∀ u ∈ l.map (Value.int k),u.oneCell' = true := by
 intro u hu
 obtain ⟨x,_,rfl⟩ := List.mem_map.1 hu
 simp [Value.oneCell']

theorem slice_cells {P : Program} {w : World} {t e : TypeId} {r : Reach} {b : Nat} {v : Value} (ht : P.underlying t = some (.slice e)) (h : Value.okWide P w r b t v) : v.cells.toList = [v] := by
 simp only [Value.okWide,ht,Cell.okWide] at h
 cases v <;> simp_all [Value.cells,Cell.ok]

theorem open_nums {H : Type} {enc : TypeId × Value → H} {P : Program} {w : World} {ts e : TypeId} {k : IntKind} {v : Value} {d : DataW H} {p : List MemPlace} (hts : P.underlying ts = some (.slice e)) (he : P.underlying e = some (.int k)) (hE : P.cellsOf e = 1)
  (hv : v.cells.toList = [v]) (h : DataW.Trod enc P w 0 (fun _ => true) true ts v d p) :
  ∃ l : List Int,RdI k w v l ∧ (∀ x ∈ l,(Lit.int k x).wf = true) := by
 obtain ⟨fuel,hf⟩ := h
 rw [hv] at hf
 rcases Go.Deep.open_slice1 hts hE hf with ⟨hcs,hx⟩ | ⟨a,len,cap,m,n,V,D,Pl,hcs,hb,hl,hm,hmm,hx,hel⟩
 ·simp at hcs
  subst hcs
  exact ⟨[],.nil,by simp⟩
 ·simp at hcs
  subst hcs
  have hmc : len ≤ m := by rw [hmm];simp;exact hl
  have hread : ∀ i,i < len → ∃ x : Int,w.cell? (a.add i) = some (.int k x) ∧ (Lit.int k x).wf = true := by
   intro i hi
   obtain ⟨hc',ht'⟩ := hel i (by omega)
   obtain ⟨x,ex,_,wx⟩ := DataW.trod_int he ht'
   simp at ex
   exact ⟨x,by rw [hc',ex],wx⟩
  have hlist : ∀ j,j ≤ len → ∃ l : List Int,l.length = j ∧ (∀ i x,l[i]? = some x → w.cell? (a.add i) = some (.int k x)) ∧ (∀ x ∈ l,(Lit.int k x).wf = true) := by
   intro j
   induction j with
   | zero => intro _;exact ⟨[],rfl,by simp,by simp⟩
   | succ j ih =>
    intro hj
    obtain ⟨l,h1,h2,h3⟩ := ih (by omega)
    obtain ⟨x,hx1,hx2⟩ := hread j (by omega)
    refine ⟨l ++ [x],by simp [h1],?_,?_⟩
    ·intro i y hy
     by_cases hij : i < l.length
     ·rw [List.getElem?_append_left hij] at hy
      exact h2 i y hy
     ·have hlt := (List.getElem?_eq_some_iff.1 hy).1
      simp at hlt
      have : i = j := by omega
      subst this
      rw [List.getElem?_append_right (by omega)] at hy
      simp [h1] at hy
      subst hy
      exact hx1
    ·intro y hy
     simp at hy
     rcases hy with hy | rfl
     ·exact h3 y hy
     ·exact hx2
  obtain ⟨l,hl1,hl2,hl3⟩ := hlist len (Nat.le_refl _)
  refine ⟨l,⟨_,_,_,rfl,hl1.symm,(fun h => by cases h),fun h0 => ?_⟩,hl3⟩
  obtain ⟨x,hx⟩ : ∃ x,l[0]? = some x := ⟨_,List.getElem?_eq_getElem (by omega)⟩
  have hc0 := hl2 0 x hx
  have e0 : a.add 0 = a := by simp [Addr.add]
  rw [e0] at hc0
  have hsp : a.spot = none := by
   cases hsp : a.spot with
   | none => rfl
   | some q =>
    simp [World.cell?] at hc0
    split at hc0 <;> simp [hsp] at hc0
  have ha : a = ⟨a.block,a.off,none⟩ := by cases a;simp_all
  refine ⟨hl,a.block,a.off,by rw [← ha],World.block_lt_of_cell? w a hc0,fun i y hy => ?_⟩
  have h1 := hl2 i y hy
  have e1 : a.add i = ⟨a.block,a.off + i,none⟩ := by rw [ha];simp [Addr.add]
  rw [e1] at h1
  exact h1
end

section
open Go.RowKit

def ints (h : List Int) : Array Value := (h.map (Value.int .i64)).toArray

def Counts (h : List Int) : Prop := h.length = 256 ∧ ∀ x ∈ h,0 ≤ x ∧ x ≤ 2147483648
theorem Counts.zero : Counts (List.replicate 256 0) := ⟨List.length_replicate,fun x hx => by have := (List.mem_replicate.1 hx).2;omega⟩
theorem Counts.get {h : List Int} (hc : Counts h) {i : Nat} (hi : i < 256) : ∃ x,h[i]? = some x ∧ 0 ≤ x ∧ x ≤ 2147483648 := by
 have hlt : i < h.length := by rw [hc.1];exact hi
 exact ⟨_,List.getElem?_eq_getElem hlt,hc.2 _ (List.getElem_mem hlt)⟩
theorem ints_get {h : List Int} {i : Nat} {x : Int} (hx : h[i]? = some x) : (ints h)[i]? = some (.int .i64 x) := by simp [ints,hx]
theorem ints_set (h : List Int) (i : Nat) (x : Int) : (ints h).setIfInBounds i (.int .i64 x) = ints (h.set i x) := by simp [ints,List.map_set]
section
variable {k : IntKind} {w w' : World} {v : Value} {ls : List (List Int)} {a : Option Addr} {n cp : Nat}
end
end

section
open Go.RowKit

abbrev encB (x : Int) : Array Value := #[.int .u8 x]
def cellN (b : Nat) (w : World) : Nat := match w.cell? ⟨b,0,none⟩ with | some (.int _ q) => q.toNat | _ => 0

theorem opIn_val {n : Nat} {P : Program} {o : Oper} {a : Act} {w w' : World} {K : Act → World → Prop} {Q : Exit → Act → World → Prop} {v : Value} (h : (execOp a.eval o).run P w = .ok (.value v) w') (hK : K (a.put o.dst v) w') : o.wpIn Fence.wide n P a w K Q := by
 refine ⟨fun _ _ => trivial,?_⟩
 show Oper.uponIn Fence.wide n P o a K Q ((execOp a.eval o).run P w)
 rw [h]
 exact hK
theorem opIn_skip {n : Nat} {P : Program} {o : Oper} {a : Act} {w w' : World} {K : Act → World → Prop} {Q : Exit → Act → World → Prop} (h : (execOp a.eval o).run P w = .ok .skip w') (hK : K (a.put o.dst undef) w') : o.wpIn Fence.wide n P a w K Q := by
 refine ⟨fun _ _ => trivial,?_⟩
 show Oper.uponIn Fence.wide n P o a K Q ((execOp a.eval o).run P w)
 rw [h]
 exact hK
theorem semAt_wide (ρ : Operand → Value) (o : Oper) : Oper.semAt Fence.wide.round ρ o = execOp ρ o := rfl
attribute [local go_sem] Oper.semAt_some semAt_wide Oper.about

theorem or128_all : ∀ r : Fin 256,bits BinOp.or IntKind.u8 ((r.val : Nat) : Int) 128 = ((r.val % 128 + 128 : Nat) : Int) := by decide +kernel
theorem or128 (q : Nat) : bits BinOp.or IntKind.u8 ((q : Int) % 256) 128 = ((q % 128 + 128 : Nat) : Int) := by
 have h := or128_all ⟨q % 256,Nat.mod_lt _ (by decide)⟩
 simp only at h
 rw [show ((q % 256 : Nat) : Int) = (q : Int) % 256 by omega] at h
 rw [h]
 congr 2
 omega
theorem cellN_eq {b : Nat} {w : World} {k : IntKind} {q : Nat} {T : TypeId} (h : Blk w b #[.int k (q : Int)] T) : cellN b w = q := by
 obtain ⟨c,-⟩ := h.one
 simp [cellN,c]

set_option maxHeartbeats 2000000 in
theorem parts1_seq (bn n : Nat) (w : World) (hn : n < 18446744073709551616) (hbn : Blk w bn #[.int .u64 (n : Int)] 95) :
  SeqY Tryz.prog 148 #[.pointer (some ⟨bn,0,none⟩)] encB [bn] (fun W => ∃ q : Nat,Blk W bn #[.int .u64 (q : Int)] 95)
   (fun ys => ys = varI n) (fun pre => pre <+: varI n) w := by
 intro lo J Jx W hW hJ hJx hY h0
 have hbn' : Blk W bn #[.int .u64 (n : Int)] 95 := (hW bn (by simp)).trans hbn
 have HY := Lib.hid hY
 have HJ := Lib.hid hJ
 clear hbn hY hJ hJx
 refine callsIn_of_wp Tryz.func148 rfl trivial ?_ rfl
 simp only [Tryz.ntmps148,List.size_toArray,List.length_cons,List.length_nil,Nat.reduceAdd,Nat.reduceSub,Array.replicate_succ,Array.replicate_zero,List.push_toArray,List.append_toArray,List.nil_append,List.cons_append]
 gi_wp2
 gi_loopw [] (fun wr => ∃ (pre : List Int) (q : Nat),q < 18446744073709551616 ∧ Hid (varI n = pre ++ varI q) ∧ Blk wr bn #[.int .u64 (q : Int)] 95 ∧ Hid (J pre wr))
  (fun wr => cellN bn wr)
 case atStart => exact ⟨[],n,hn,rfl,hbn',h0⟩
 case round =>
  obtain ⟨pre,q,hq,hp,hbq,hJs⟩ := hrel
  obtain ⟨e3,-⟩ := hbq.one
  have hbf := hbq.frozen 0
  by_cases h128 : 128 ≤ q
  ·have h128' : (128 : Int) ≤ (q : Int) := by omega
   have HOR := Lib.hid (or128 q)
   have hv := Lib.hid (varI_step h128)
   have hyy := HY.out pre ((q % 128 + 128 : Nat) : Int) wr hJs.out ⟨_,hbq⟩ ⟨varI (q / 128),by rw [hp.out,hv.out];simp⟩
   obtain ⟨fn,tmps,assign,body,hy,hR⟩ := hyy
   dsimp only [encB] at hy
   have HQ := Lib.hid (cellN_eq hbq)
   obtain ⟨x,hx⟩ : ∃ x : Int,x = ((q % 128 + 128 : Nat) : Int) := ⟨_,rfl⟩
   rw [← hx] at HOR hv hy hR
   have HBQ := Lib.hid hbq
   clear hx hbq
   have hor := HOR.out
   gi_wp2
   refine (round_any hR).mono ?_
   rintro e W3 ⟨hk3,(⟨rfl,hJ3⟩ | ⟨rfl,hJx3⟩)⟩
   ·have hb3 : Blk W3 bn #[.int .u64 (q : Int)] 95 := (hk3 bn (by simp)).trans HBQ.out
    obtain ⟨c3,-⟩ := hb3.one
    have f3 := hb3.frozen 0
    have hlt3 := hb3.lt
    have eq7 : (q : Int) / 128 = ((q / 128 : Nat) : Int) := by omega
    have NB : Hid (Blk (W3.setCell ⟨bn,0,none⟩ (.int .u64 ((q / 128 : Nat) : Int))) bn #[.int .u64 ((q / 128 : Nat) : Int)] 95) := by
     have := hb3.set 0 (.int .u64 ((q / 128 : Nat) : Int))
     exact this
    have kk3 : Keeps W3 (W3.setCell ⟨bn,0,none⟩ (.int .u64 ((q / 128 : Nat) : Int))) [bn] := (Keeps.refl W3 [bn]).setCell (.inr (by simp)) _
    have NJ : Hid (J (pre ++ [x]) (W3.setCell ⟨bn,0,none⟩ (.int .u64 ((q / 128 : Nat) : Int)))) := HJ.out _ _ _ hJ3 kk3
    have NP : Hid (varI n = (pre ++ [x]) ++ varI (q / 128)) := by show _ = _;rw [hp.out,hv.out];simp
    have NQ := Lib.hid (cellN_eq NB.out)
    clear hJ3 hk3 kk3
    gi_wp2
    refine opIn_val (v := .int .u64 ((q / 128 : Nat) : Int)) (w' := W3) (by simp [execOp,go_sem]) ?_
    simp only [Act.put,List.setIfInBounds_toArray,List.set_cons_succ,List.set_cons_zero]
    gi_wp2
    refine opIn_skip (w' := W3.setCell ⟨bn,0,none⟩ (.int .u64 ((q / 128 : Nat) : Int))) (by simp [execOp,go_sem,Tryz.isAgg95,c3,f3]) ?_
    gi_wp2
    simp only [Act.put]
    go_roundw
    case rel => exact ⟨pre ++ [x],q / 128,by omega,NP,NB.out,NJ⟩
    case measure => rw [HQ.out,NQ.out];omega
   ·gi_wp2
    refine bodyPost_ret (v := .tuple #[]) (by simp [results,Tryz.results148]) rfl ⟨⟨_,rfl⟩,.inr ⟨_,?_,hJx3⟩⟩
    exact ⟨varI (q / 128),by rw [hp.out,hv.out];simp⟩
  ·have h128' : decide ((128 : Int) ≤ (q : Int)) = false := decide_eq_false (by omega)
   have hv := Lib.hid (varI_small (n := q) (by omega))
   have hyy := HY.out pre (q : Int) wr hJs.out ⟨_,hbq⟩ ⟨[],by rw [hp.out,hv.out];simp⟩
   obtain ⟨fn,tmps,assign,body,hy,hR⟩ := hyy
   dsimp only [encB] at hy
   gi_wp2
   refine (round_any hR).mono ?_
   rintro e W3 ⟨hk3,(⟨rfl,hJ3⟩ | ⟨rfl,hJx3⟩)⟩
   ·gi_wp2
    go_end0
    exact ⟨⟨_,rfl⟩,.inl ⟨_,by rw [hp.out,hv.out],hJ3⟩⟩
   ·gi_wp2
    go_end0
    exact ⟨⟨_,rfl⟩,.inr ⟨_,⟨[],by rw [hp.out,hv.out];simp⟩,hJx3⟩⟩
end

section
open Go.RowKit

theorem run_build0 {P : Program} (w : World) (t e : TypeId) (ie : TypeInfo) (z : Value)
  (hu : P.underlying t = some (.slice e)) (hie : P.info? e = some ie) (hz : ie.zero = some z) :
  (Instr.buildSlice t 0 #[]).run P w = .ok (.slice (some ⟨w.heap.size,0,none⟩) 0 0) (w.alloc (.cells #[] e)) := by
 have h0 : Array.range 0 = #[] := rfl
 simp [Instr.buildSlice,run_underlying hu,sizeOf,typeInfo,zeroValue,hie,hz,newRow,Instr.fill,h0]

theorem wpList_build0 {P : Program} {ops : Array Oper} {rest : List Oper} {o : Oper} {a : Act} {w : World} {Q : Exit → Act → World → Prop} (hg : o.guard = none) (t e : TypeId) (ho : o.op = .buildSlice t 0 #[])
  (ie : TypeInfo) (z : Value) (size : Nat)
  (hu : P.underlying t = some (.slice e)) (hie : P.info? e = some ie) (hz : ie.zero = some z)
  (h : ∀ v,(w.alloc (.cells #[] e)).ownsRow w.heap.size e size v 0 [] → v.ownBlock = some w.heap.size → v ≠ .slice none 0 0 → wpList P ops Q rest (a.put o.dst v) (w.alloc (.cells #[] e))) : wpList P ops Q (o :: rest) a w := by
 refine wpList_plain hg fun K hK => ?_
 unfold Oper.wp execOp
 simp only [ho,Sem.run_bind,Array.map_empty,run_build0 w t e ie z hu hie hz,Result.andThen_ok]
 exact hK _ _ (h _ ⟨by simp,.inr ⟨_,0,#[],rfl,Nat.le_refl _,heap_alloc_new w _,Nat.le_refl _,by decide,by simp,by simp⟩⟩ rfl (by simp))

theorem wpList_move {P : Program} {ops : Array Oper} {rest : List Oper} {o : Oper} {a : Act} {w : World} {Q : Exit → Act → World → Prop} (hg : o.guard = none) (x : Operand) (ho : o.op = .move x)
  (h : wpList P ops Q rest (a.put o.dst (a.eval x)) w) : wpList P ops Q (o :: rest) a w := by
 refine wpList_plain hg fun K hK => ?_
 unfold Oper.wp execOp
 simp only [ho]
 exact hK _ _ h

theorem grown_refl (w : World) (row : Option Nat) : w.grownBy w row := ⟨rfl,rfl,rfl,Nat.le_refl _,fun _ _ _ => rfl⟩

theorem wpList_appendI {P : Program} {w : World} {ops : Array Oper} {rest : List Oper} {o : Oper} {a : Act} {Q : Exit → Act → World → Prop} (hgd : o.guard = none) (s x : Operand) (t : TypeId)
  (ho : o.op = .call { callee := .builtin .append,args := #[s,x],argTypes := #[t,t] })
  (base : Nat) (e : TypeId) (i : TypeInfo) (z : Value) (bytes : Nat) (ht : P.underlying t = some (.slice e)) (hi : P.info? e = some i) (hz : i.zero = some z)
  (hsize : i.size = 1) (hby : i.bytes = bytes) (hzs : z.cells.size = 1)
  (v : Value) (n : Nat) (xs : List Value) (hs : a.eval s = v) (hown : w.ownsRow base e 1 v n xs) (vx : Value) (hx : a.eval x = vx) (k : IntKind) (l : List Int) (hv : RdI k w vx l)
  (h63 : n + l.length ≤ maxLen) (hbytes : (n + l.length) * bytes ≤ 140737488355328) (hbase : base ≤ w.heap.size)
  (h : ∀ v' w',w'.ownsRow base e 1 v' (n + l.length) (xs ++ l.map (Value.int k)) → w.grownBy w' v.ownBlock → (v ≠ .slice none 0 0 → v' ≠ .slice none 0 0) → wpList P ops Q rest (a.put o.dst v') w') : wpList P ops Q (o :: rest) a w := by
 obtain ⟨A0,m,cp,rfl,hm,-⟩ := hv.form
 cases A0 with
 | none =>
  obtain ⟨rfl,rfl,rfl⟩ := hv.nilcap
  exact wpList_append_own_none hgd s x t ho base e i 1 ht hi v n xs hs hown hx (h v w (by simpa using hown) (grown_refl _ _) id)
 | some ad =>
  subst hm
  exact wpList_append_own w hgd s x t ho base e i z 1 bytes ht hi hz hsize hby hzs (by decide) v n xs hs hown ad l.length cp (l.map (Value.int k)) hx (by simp) hv.news (nums_one k l) h63 hbytes hbase
   (fun v' w' h1 h2 h3 => h v' w' h1 h2 (fun hne e => hne (h3.1 e).1))

theorem wpList_copyI {P : Program} {w : World} {ops : Array Oper} {rest : List Oper} {o1 o2 o3 : Oper} {a : Act} {Q : Exit → Act → World → Prop} (g1 : o1.guard = none) (g2 : o2.guard = none) (g3 : o3.guard = none) (t e : TypeId) (x : Operand) (d1 d2 : Tmp)
  (ho1 : o1.op = .buildSlice t 0 #[]) (ho2 : o2.op = .move x) (ho3 : o3.op = .call { callee := .builtin .append,args := #[.tmp d1,.tmp d2],argTypes := #[t,t] })
  (i : TypeInfo) (z : Value) (bytes : Nat) (ht : P.underlying t = some (.slice e)) (hi : P.info? e = some i) (hz : i.zero = some z) (hsize : i.size = 1) (hby : i.bytes = bytes) (hzs : z.cells.size = 1)
  (vx : Value) (hx : ∀ v0,(a.put o1.dst v0).eval x = vx) (e1 : ∀ v0,((a.put o1.dst v0).put o2.dst vx).eval (.tmp d1) = v0) (e2 : ∀ v0,((a.put o1.dst v0).put o2.dst vx).eval (.tmp d2) = vx)
  (k : IntKind) (l : List Int) (hv : RdI k w vx l) (h63 : l.length ≤ maxLen) (hbytes : l.length * bytes ≤ 140737488355328)
  (h : ∀ v0 v' w',w'.ownsRow w.heap.size e 1 v' l.length (l.map (Value.int k)) → Keeps w w' [] → v' ≠ .slice none 0 0 → wpList P ops Q rest (((a.put o1.dst v0).put o2.dst vx).put o3.dst v') w') : wpList P ops Q (o1 :: o2 :: o3 :: rest) a w := by
 refine wpList_build0 g1 t e ho1 i z 1 ht hi hz fun v0 hown hb hne => ?_
 refine wpList_move g2 x ho2 ?_
 rw [hx v0]
 refine wpList_appendI g3 _ _ t ho3 w.heap.size e i z bytes ht hi hz hsize hby hzs v0 0 [] (e1 v0) hown vx (e2 v0) k l (hv.keeps ((Keeps.refl w []).alloc _)) (by simpa using h63) (by simpa using hbytes) (by simp) ?_
 intro v' w' h1 h2 h3
 refine h v0 v' w' (by simpa using h1) ?_ (h3 hne)
 rw [hb] at h2
 exact ((Keeps.refl w []).alloc _).trans (Keeps.of_grown (S := [w.heap.size]) h2 (fun j hj => by cases hj;simp)) (fun j hj hlt => by have := List.mem_singleton.1 hj;omega)
end

section
open Go.RowKit Go.Shelf

attribute [local go_sem] Oper.semAt_some

theorem Tryz.infoByte : (Tryz.prog.info? 5).map (fun i => (i.zero,i.size,i.bytes)) = some (some (.int .u8 0),1,1) := by kernel_rfl

abbrev OwnB (w : World) (base : Nat) (v : Value) (l : List Int) : Prop := w.ownsRow base 5 1 v l.length (l.map (.int .u8))

theorem own_ne {w : World} {base : Nat} {v : Value} {l : List Int} (h : OwnB w base v l) {b : Nat} {o : Obj} (hb : w.heap[b]? = some o) (ho : ∀ cs,o ≠ .cells cs 5 (0,0)) : v.ownBlock ≠ some b := by
 rcases h.2 with ⟨rfl,-⟩ | ⟨g,cap,cur,rfl,-,hg,-⟩
 ·simp [Value.ownBlock]
 ·intro e
  simp [Value.ownBlock] at e
  subst e
  rw [hg] at hb
  exact ho _ (Option.some.inj hb).symm

theorem own_moved {w w' : World} {base : Nat} {v : Value} {l : List Int} (h : OwnB w base v l) (hg : ∀ g,v.ownBlock = some g → w'.heap[g]? = w.heap[g]?) : OwnB w' base v l := by
 refine ⟨h.1,?_⟩
 rcases h.2 with ⟨rfl,h0⟩ | ⟨g,cap,cur,rfl,h1,h2,h3⟩
 ·exact .inl ⟨rfl,h0⟩
 ·exact .inr ⟨g,cap,cur,rfl,h1,(hg g rfl).trans h2,h3⟩

set_option maxHeartbeats 1000000 in
theorem cloneb_any (v : Value) (l : List Int) (w : World) (hv : RdI .u8 w v l) (hl : l.length ≤ 1000000) :
  Calls Tryz.prog 33 #[v] w fun e w' => ∃ v',e = .returned v' ∧ OwnB w' w.heap.size v' l ∧ Keeps w w' [] := by
 obtain ⟨i0,hi,hz0,hz1,hz2⟩ := info_parts Tryz.infoByte
 obtain ⟨ad,n,c,rfl,-,-⟩ := hv.form
 have HV := Lib.hid hv
 have heq : ∀ w : World,(binOp .eql 22 (.slice ad n c) (.slice none 0 0)).run Tryz.prog w = .ok (.bool ad.isNone) w := fun w => Lib.run_eql_slice_nil w _ _ _ _ _ _ _ Tryz.underlying22
 cases ad with
 | none =>
  obtain ⟨rfl,rfl,rfl⟩ := hv.nilcap
  simp only [Option.isNone_none] at heq
  clear hv
  go_enter Tryz.func33,Tryz.ntmps33
  go_wp2_with fail
  go_ret
  exact ⟨_,rfl,World.ownsRow_nil _ _ _ _,Keeps.refl _ _⟩
 | some ad =>
  simp only [Option.isNone_some] at heq
  clear hv
  go_enter Tryz.func33,Tryz.ntmps33
  go_wp2_with (refine wpList_copyI rfl rfl rfl 22 5 _ _ _ rfl rfl rfl i0 (.int .u8 0) 1 Tryz.underlying22 hi hz0 hz1 hz2 rfl (.slice (some ad) n c) (fun _ => rfl) (fun _ => rfl) (fun _ => rfl) .u8 l HV.out (by unfold maxLen;omega) (by omega) ?_;intro v0 v1 w1 own1 k1 ne1;obtain ⟨a1,c1,rfl⟩ := own_form own1)
  go_ret
  exact ⟨_,rfl,own1,k1⟩
end

section
open Go.RowKit

theorem calls_of_marks {P : Program} {f : FuncId} {fn : Func} {c : Code} {args : Array Value} {w : World} {R : Ending → World → Prop} (hf : P.funcs[f]? = some fn) (hb : fn.body = some c)
  (h : c.wp P (bodyPostM Fence.wide 9 P fn R) { tmps := args ++ Array.replicate (fn.ntmps - args.size) undef,defers := [] } w) : Calls P f args w R :=
 callsIn_wide.1 (callsIn_of_wp_marks hf hb trivial (wpIn_wide.2 h) rfl)

theorem res_cell {fn : Func} {p : Tmp} {T : TypeId} (h : fn.results = #[.cell p T]) {tmps : Array Value} {P : Program} {w : World} {a : Addr} {v : Value} (ht : tmps.getD p undef = .pointer (some a)) (hl : (loadVar T a).run P w = .ok v w) :
  (results fn tmps).run P w = .ok v w := by
 simp only [results,h]
 have ht' : tmps[p]?.getD undef = .pointer (some a) := by simpa using ht
 simp [Sem.run_bind,Result.andThen,ht',asAddr,hl]
end

section
open Go.RowKit Go.Shelf

attribute [local go_sem] Oper.semAt_some

theorem parts_any (n : Nat) (w : World) (hn : n < 18446744073709551616) :
  Calls Tryz.prog 113 #[.int .u64 (n : Int)] w fun e w' => e = .returned (.func (.func 148) #[] #[.pointer (some ⟨w.heap.size,0,none⟩)]) ∧ w' = w.alloc (.cells #[.int .u64 (n : Int)] 95) := by
 go_enter Tryz.func113,Tryz.ntmps113
 go_wp2_with fail
 go_ret
 exact ⟨rfl,rfl⟩

def PutEnd (w : World) (b : List Int) (n : Nat) (e : Ending) (w' : World) : Prop :=
 if 4611686018427387903 < n then e = .returned (.tuple #[.slice none 0 0,.int .i64 2]) ∧ w' = w
 else ∃ v,e = .returned (.tuple #[v,.int .i64 0]) ∧ OwnB w' w.heap.size v (b ++ varI n) ∧ Keeps w w' []

set_option maxHeartbeats 4000000 in
theorem putVarint_any (v : Value) (b : List Int) (n : Nat) (w : World) (hv : RdI .u8 w v b) (hl : b.length ≤ 500000) (hn : n < 18446744073709551616) :
  Calls Tryz.prog 67 #[v,.int .u64 (n : Int)] w (PutEnd w b n) := by
 obtain ⟨i0,hi,hz0,hz1,hz2⟩ := info_parts Tryz.infoByte
 have HCL := Lib.hid (cloneb_any v b w hv (by omega))
 obtain ⟨ad,m,c,rfl,-,-⟩ := hv.form
 clear hv
 by_cases hbig : 4611686018427387903 < n
 ·have h1 : (4611686018427387903 : Int) < (n : Int) := by omega
  have hfin : ∀ e w',PutEnd w b n e w' ↔ (e = .returned (.tuple #[.slice none 0 0,.int .i64 2]) ∧ w' = w) := fun e w' => by unfold PutEnd;rw [if_pos hbig]
  go_enter Tryz.func67,Tryz.ntmps67
  go_wp2_with fail
  refine bodyPost_ret (v := .tuple #[.slice none 0 0,.int .i64 2]) (by simp [results,Tryz.results67]) rfl ((hfin _ _).2 ⟨rfl,rfl⟩)
 ·have h1 : decide ((4611686018427387903 : Int) < (n : Int)) = false := decide_eq_false (by omega)
  have hlen := varI_len 9 n (by omega)
  have hfin : ∀ e w',PutEnd w b n e w' ↔ (∃ v,e = .returned (.tuple #[v,.int .i64 0]) ∧ OwnB w' w.heap.size v (b ++ varI n) ∧ Keeps w w' []) := fun e w' => by unfold PutEnd;rw [if_neg hbig]
  have HF := Lib.hid hfin
  have HL := Lib.hid hlen
  have PA := Lib.hid (fun w1 => parts_any n w1 hn)
  clear hfin hlen
  refine calls_of_marks Tryz.func67 rfl ?_
  simp only [Tryz.ntmps67,List.size_toArray,List.length_cons,List.length_nil,Nat.reduceAdd,Nat.reduceSub,Array.replicate_succ,Array.replicate_zero,List.push_toArray,List.append_toArray,List.nil_append,List.cons_append]
  go_wp2_with (first | (go_at_call 33;refine HCL.out.mono ?_;rintro e w1 ⟨v1,rfl,own1,k1⟩;obtain ⟨a1,c1,rfl⟩ := own_form own1) | (go_at_call 113;refine (PA.out _).mono ?_;rintro e w2 ⟨rfl,rfl⟩))
  have hs1 := k1.size
  have bo0 : Blk ((w1.alloc (.cells #[.slice a1 b.length c1] 22)).alloc (.cells #[.int .u64 (n : Int)] 95)) w1.heap.size #[.slice a1 b.length c1] 22 := (Blk.new w1 _ _).alloc _
  have bn0 : Blk ((w1.alloc (.cells #[.slice a1 b.length c1] 22)).alloc (.cells #[.int .u64 (n : Int)] 95)) (w1.heap.size + 1) #[.int .u64 (n : Int)] 95 := by
   have := Blk.new (w1.alloc (.cells #[.slice a1 b.length c1] 22)) #[.int .u64 (n : Int)] 95
   simpa using this
  have kz : Keeps w1 ((w1.alloc (.cells #[.slice a1 b.length c1] 22)).alloc (.cells #[.int .u64 (n : Int)] 95)) [] := ((Keeps.refl w1 []).alloc _).alloc _
  have ow0 := own_keeps own1 kz
  have k0 := k1.then kz
  have hlg : ∀ g,(Value.slice a1 b.length c1).ownBlock = some g → g < w1.heap.size := fun g hg => (own1.lt g hg).2
  have hsz : ((w1.alloc (.cells #[.slice a1 b.length c1] 22)).alloc (.cells #[.int .u64 (n : Int)] 95)).heap.size = w1.heap.size + 2 := by simp
  clear own1 k1 kz
  generalize ((w1.alloc (.cells #[.slice a1 b.length c1] 22)).alloc (.cells #[.int .u64 (n : Int)] 95)) = Z at *
  refine range_PY (gf := 148) (lb := #[.pointer (some ⟨w1.heap.size + 1,0,none⟩)]) rfl (enters_of Tryz.func148 (by kernel_rfl) rfl)
   (parts1_seq (w1.heap.size + 1) n Z hn bn0) (by simp;omega) (fun _ => rfl) 0
   (fun pre W => ∃ a c,Blk W w1.heap.size #[.slice a (b ++ pre).length c] 22 ∧ OwnB W w.heap.size (.slice a (b ++ pre).length c) (b ++ pre) ∧ Keeps w W [] ∧ (∀ g,(Value.slice a (b ++ pre).length c).ownBlock = some g → g ≠ w1.heap.size + 1 ∧ g ≠ w1.heap.size + 2 ∧ g ≠ w1.heap.size + 3))
   (fun pre W => False)
   (fun W => ∃ a c,Blk W w1.heap.size #[.slice a (b ++ varI n).length c] 22 ∧ OwnB W w.heap.size (.slice a (b ++ varI n).length c) (b ++ varI n) ∧ Keeps w W [])
   ?hI ?hIx ?h0 ?hround ?hdone ?hstop ?hex ?hrest
  case hI =>
   rintro s A B ⟨a2,c2,bo,ow,kw,hn2⟩ hab
   rw [hsz] at hab
   refine ⟨a2,c2,bo.keeps hab (by simp;omega),own_moved ow (fun g hg => ?_),kw.trans hab (fun j hj hlt => by simp at hj;omega),hn2⟩
   have := hn2 g hg
   exact hab.block g (ow.lt g hg).2 (by simp;omega)
  case hIx => exact fun s A B h _ => h
  case hstop => exact fun pre X _ h => h.elim
  case hex => exact fun a' W h => by simpa [Exit.inBlock,Exit.noGoto] using h
  case h0 =>
   refine ⟨a1,c1,by simpa using bo0,by simpa using ow0,k0,fun g hg => ?_⟩
   have := hlg g (by simpa using hg)
   omega
  case hdone =>
   rintro xs W hS ⟨a2,c2,bo,ow,kw,-⟩
   rw [hS] at bo ow
   exact ⟨a2,c2,bo,ow,kw⟩
  case hround =>
   rintro l pre x W hl hlt hD hF ⟨a2,c2,bo,ow,kw,hn2⟩ hsp
   gi_wp2
   refine ⟨SameAt.refl _ _,fun W2 hT => ?_⟩
   subst hl
   rw [hsz] at hT hD hlt
   obtain ⟨q,bn⟩ := hF
   have bo2 := hT.blk bo
   have bn2 := hT.blk bn
   have ow2 : OwnB W2 w.heap.size (.slice a2 (b ++ pre).length c2) (b ++ pre) := own_moved ow (fun g hg => hT.keeps.block g (ow.lt g hg).2 (by have := hn2 g hg;simp;omega))
   have kw2 : Keeps w W2 [] := kw.trans hT.keeps (fun j hj hlt => by simp at hj;omega)
   have hD2 : W2.heap[w1.heap.size + 2]? = some (.deferred (some [])) := (hT.keeps.block _ (by omega) (by simp)).trans hD
   obtain ⟨r0,r1,hr0,hr1⟩ := hT
   have hl2 : W2.heap[w1.heap.size + 3]? = some (.loop r1) := by rw [hr1];exact World.putObj_heap_same hlt
   clear hr0 hr1 r0 bo bn ow kw hn2 hD
   have hpl : (b ++ pre).length + 1 ≤ 500010 := by have h1 := hsp.length_le;have h2 := HL.out;simp at h1 ⊢;omega
   have hlb := bo2.lt
   have ow3 := own_keeps ow2 ((Keeps.refl W2 []).alloc (.cells #[.int .u8 x] 5))
   have hm : (b ++ pre).map (Value.int .u8) ++ [.int .u8 x] = (b ++ (pre ++ [x])).map (Value.int .u8) := by simp
   have hm' : (b ++ (pre ++ [x])).length = (b ++ pre).length + 1 := by simp;omega
   have ne1 : (Value.slice a2 (b ++ pre).length c2).ownBlock ≠ some w1.heap.size := own_ne ow2 bo2 (fun cs h => by cases h)
   have ne2 : (Value.slice a2 (b ++ pre).length c2).ownBlock ≠ some (w1.heap.size + 1) := own_ne ow2 bn2 (fun cs h => by cases h)
   have ne3 : (Value.slice a2 (b ++ pre).length c2).ownBlock ≠ some (w1.heap.size + 2) := own_ne ow2 hD2 (fun cs h => by cases h)
   have ne4 : (Value.slice a2 (b ++ pre).length c2).ownBlock ≠ some (w1.heap.size + 3) := own_ne ow2 hl2 (fun cs h => by cases h)
   have hge : ∀ k,(Value.slice a2 (b ++ pre).length c2).ownBlock = some k → w.heap.size ≤ k := fun k hk => (ow2.lt k hk).1
   generalize (b ++ pre).map (Value.int .u8) = xs at *
   generalize (b ++ pre).length = N at *
   obtain ⟨cb,-⟩ := bo2.one
   have HM := Lib.hid hm
   have HM' := Lib.hid hm'
   have OW3 := Lib.hid ow3
   have HNE := Lib.hid (And.intro ne1 (And.intro ne2 (And.intro ne3 ne4)))
   have HGE := Lib.hid hge
   have BO2 := Lib.hid bo2
   have BN2 := Lib.hid bn2
   have HD2 := Lib.hid hD2
   have HL2 := Lib.hid hl2
   clear hm hm' hsp ow3 ne1 ne2 ne3 ne4 bn2 hD2 hl2 ow2 hge bo2
   have HNW : Hid (∀ (j : Nat) (u : Value),[Value.int IntKind.u8 x][j]? = some u → (W2.alloc (.cells #[.int .u8 x] 5)).cell? (Addr.add ⟨W2.heap.size,0,none⟩ j) = some u) := fun j u hj => by
    cases j with
    | zero =>
     obtain rfl : Value.int .u8 x = u := by simpa using hj
     exact (Blk.new W2 #[.int .u8 x] 5).cell 0
    | succ j => simp at hj
   gi_wp2_with (gi_at_builtin;refine wpListIn_append_own _ rfl _ _ 22 rfl w.heap.size 5 i0 (.int .u8 0) 1 1 Tryz.underlying22 hi hz0 hz1 hz2 rfl (by decide) (.slice a2 N c2) N xs rfl OW3.out _ 1 1 [.int .u8 x] rfl rfl HNW.out (by simp [Value.oneCell']) (by unfold maxLen;omega) (by omega) (by simp;omega) ?_;intro v3 w3 own3 g3 _;obtain ⟨a3,c3,rfl⟩ := own_form own3;have bo3 : Blk w3 w1.heap.size #[.slice a2 N c2] 22 := (g3.block _ (by simp;omega) (fun e => HNE.out.1 e.symm)).trans (BO2.out.alloc _);obtain ⟨cb3,cf3⟩ := bo3.one)
   have st : ∀ (k : Nat) (o : Obj),W2.heap[k]? = some o → (Value.slice a2 N c2).ownBlock ≠ some k → w3.heap[k]? = some o := fun k o hk hne => by
    have hlt := (Array.getElem?_eq_some_iff.1 hk).1
    exact (g3.block k (by simp;omega) (fun e => hne e.symm)).trans ((((Keeps.refl W2 []).alloc _).block k hlt (by simp)).trans hk)
   have m1 := st _ _ BN2.out HNE.out.2.1
   have m2 := st _ _ HD2.out HNE.out.2.2.1
   have m3 := st _ _ HL2.out HNE.out.2.2.2
   have own3' : OwnB w3 w.heap.size (.slice a3 (b ++ (pre ++ [x])).length c3) (b ++ (pre ++ [x])) := by
    have h := own3
    rw [HM.out] at h
    unfold OwnB
    rw [HM'.out]
    exact h
   have q1 := own_ne own3' m1 (fun cs h => by cases h)
   have q2 := own_ne own3' m2 (fun cs h => by cases h)
   have q3 := own_ne own3' m3 (fun cs h => by cases h)
   have q0 := own_ne own3' bo3 (fun cs h => by cases h)
   have ks : Keeps w3 (w3.setCell ⟨w1.heap.size,0,none⟩ (.slice a3 (N + 1) c3)) [w1.heap.size] := (Keeps.refl w3 [w1.heap.size]).setCell (.inr (by simp)) _
   have kg : Keeps W2 w3 (match (Value.slice a2 N c2).ownBlock with | some g => [g] | none => []) := ((Keeps.refl W2 _).alloc _).trans (Keeps.of_grown g3 (fun k hk => by rw [hk];simp)) (fun j hj _ => hj)
   refine ⟨?_,a3,c3,?_,?_,?_,?_⟩
   ·intro k hk
    have hk' : k = w1.heap.size + 1 ∨ k = w1.heap.size + 2 ∨ k = w1.heap.size + 3 := by simp [hsz] at hk;omega
    rcases hk' with rfl | rfl | rfl
    ·exact (ks.block _ (Array.getElem?_eq_some_iff.1 m1).1 (by simp)).trans (m1.trans BN2.out.symm)
    ·exact (ks.block _ (Array.getElem?_eq_some_iff.1 m2).1 (by simp)).trans (m2.trans HD2.out.symm)
    ·exact (ks.block _ (Array.getElem?_eq_some_iff.1 m3).1 (by simp)).trans (m3.trans HL2.out.symm)
   ·rw [HM'.out]
    exact bo3.set 0 _
   ·exact own_moved own3' (fun g hg => ks.block g (own3'.lt g hg).2 (by simp;rintro rfl;exact q0 hg))
   ·refine (kw2.trans kg (fun j hj hlt => ?_)).trans ks (fun j hj hlt => ?_)
    ·have hgx : (Value.slice a2 N c2).ownBlock = some j := by
      cases a2 with
      | none => simp [Value.ownBlock] at hj
      | some a => simp [Value.ownBlock] at hj ⊢;exact hj.symm
     have := HGE.out j hgx;omega
    ·simp at hj;omega
   ·intro g hg
    refine ⟨?_,?_,?_⟩ <;> rintro rfl
    ·exact q1 hg
    ·exact q2 hg
    ·exact q3 hg
  case hrest =>
   rintro D X hD hK ⟨a2,c2,bo,ow,kw⟩
   rw [hsz] at hD
   obtain ⟨cb,-⟩ := bo.one
   have OW := Lib.hid ow
   have ne := own_ne ow hK (fun cs h => by cases h)
   have NE := Lib.hid ne
   have hgg : (b ++ varI n).length = (b ++ varI n).length := rfl
   generalize hN : (b ++ varI n).length = N at cb
   have HN := Lib.hid hN
   clear ow ne hgg bo hN
   simp only [Exit.inBlock,Exit.then]
   go_wp2_with fail
   refine ⟨by simp,.inl ⟨_,_,rfl,run_takeDeferred hK,?_⟩⟩
   have kp : Keeps X (X.putObj D (.deferred none)) [D] := keeps_put
   refine ⟨.tuple #[.slice a2 N c2,.int .i64 0],by simp [results,Tryz.results67],(HF.out _ _).2 ⟨_,rfl,?_,kw.trans kp (fun j hj hlt => by simp at hj;omega)⟩⟩
   rw [← HN.out]
   exact own_moved OW.out (fun g hg => kp.block g (OW.out.lt g hg).2 (by simp;rintro rfl;exact NE.out hg))
end

section
open Go.RowKit

def mxL (l : List Int) : Int := l.foldl max 0
theorem mxL_snoc (l : List Int) (x : Int) : mxL (l ++ [x]) = max (mxL l) x := by simp [mxL]
theorem foldl_max_ge (l : List Int) (a : Int) : a ≤ l.foldl max a ∧ (∀ x ∈ l,x ≤ l.foldl max a) ∧ (l.foldl max a = a ∨ l.foldl max a ∈ l) := by
 induction l generalizing a with
 | nil => simp
 | cons y l ih =>
  obtain ⟨h1,h2,h3⟩ := ih (max a y)
  simp only [List.foldl_cons]
  refine ⟨by omega,fun x hx => ?_,?_⟩
  ·rcases List.mem_cons.1 hx with rfl | hx
   ·omega
   ·exact h2 x hx
  ·rcases h3 with h3 | h3
   ·rcases Int.le_total a y with h | h
    ·right;rw [h3,Int.max_eq_right h];simp
    ·left;rw [h3];exact Int.max_eq_left h
   ·right;simp [h3]
theorem mxL_nonneg (l : List Int) : 0 ≤ mxL l := (foldl_max_ge l 0).1
theorem mxL_ge {l : List Int} {x : Int} (h : x ∈ l) : x ≤ mxL l := (foldl_max_ge l 0).2.1 x h
theorem mxL_le {l : List Int} {m : Int} (h0 : 0 ≤ m) (h : ∀ x ∈ l,x ≤ m) : mxL l ≤ m := by
 rcases (foldl_max_ge l 0).2.2 with h1 | h1
 ·unfold mxL;omega
 ·exact h _ h1
theorem usedF_pos {l : List Int} (i : Nat) : 0 < (usedF i l).length ↔ ∃ x ∈ l,0 < x := by
 induction l generalizing i with
 | nil => simp [usedF]
 | cons y l ih =>
  simp only [usedF]
  by_cases h : 0 < y
  ·rw [if_pos h];simp [h]
  ·rw [if_neg h,ih (i + 1)];simp [h]
theorem usedL_pos {l : List Int} : 0 < (usedL l).length ↔ ∃ x ∈ l,0 < x := usedF_pos 0
def finM (m n : Int) : Bool := decide (0 ≤ n) && decide (n ≤ m)
theorem finM_iff {m x : Int} : finM m x = true ↔ 0 ≤ x ∧ x ≤ m := by simp [finM]

/-! ### Trees -/
def sum11 : List Int → Nat
 | [] => 0
 | x :: l => (if 0 < x then 2 ^ (11 - x.toNat) else 0) + sum11 l
theorem sum11_append (a b : List Int) : sum11 (a ++ b) = sum11 a + sum11 b := by
 induction a with
 | nil => simp [sum11]
 | cons x a ih => simp only [List.cons_append,sum11,ih];omega
theorem sum11_snoc (l : List Int) (x : Int) : sum11 (l ++ [x]) = sum11 l + (if 0 < x then 2 ^ (11 - x.toNat) else 0) := by
 rw [sum11_append];simp [sum11]
theorem sum11_le (l : List Int) : sum11 l ≤ 1024 * l.length := by
 induction l with
 | nil => simp [sum11]
 | cons x l ih =>
  simp only [sum11,List.length_cons]
  split
  ·have : 2 ^ (11 - x.toNat) ≤ 2 ^ 10 := Nat.pow_le_pow_right (by decide) (by omega)
   omega
  ·omega
def treeL (l : List Int) : Bool := (decide (l.length ≤ 256) && l.all (finM 11)) && (decide (1 < (usedL l).length) && decide (sum11 l = 2048))
theorem treeL_iff {l : List Int} : treeL l = true ↔ l.length ≤ 256 ∧ (∀ x ∈ l,0 ≤ x ∧ x ≤ 11) ∧ 1 < (usedL l).length ∧ sum11 l = 2048 := by
 simp [treeL,finM,and_assoc]
theorem usedL_count {l : List Int} {k : Nat} {x : Int} (h : l[k]? = some x) : (usedL (l.take (k + 1))).length = (usedL (l.take k)).length + if 0 < x then 1 else 0 := by
 rw [take_next h,usedL_snoc,List.length_append];split <;> rfl
theorem pow11 {X : Nat} (h1 : 1 ≤ X) (h2 : X ≤ 11) : wrap64 ((2 : Int) ^ (11 - X)) = ((2 ^ (11 - X) : Nat) : Int) ∧ 2 ^ (11 - X) ≤ 1024 := by
 have h : (2:Nat) ^ (11 - X) ≤ 2 ^ 10 := Nat.pow_le_pow_right (by decide) (by omega)
 have h3 : (2 : Nat) ^ 10 = 1024 := by decide
 rw [h3] at h
 have h4 : ((2 : Int) ^ (11 - X)) = ((2 ^ (11 - X) : Nat) : Int) := by simp
 refine ⟨?_,h⟩
 rw [h4]
 generalize 2 ^ (11 - X) = N at *
 exact IntWalk.wrap64_in _ ⟨by omega,by omega⟩
end

section
open Go.RowKit

theorem usedT_len (l : List Int) (k : Nat) : (usedL (l.take k)).length ≤ k := by
 have := usedL_len (l.take k)
 simp at this
 omega

set_option maxHeartbeats 2000000 in
theorem c_right (v : Value) (l : List Int) (w : World) (hv : RdI .i64 w v l) (hn : l.length ≤ 1000000) :
  Calls Tryz.prog 115 #[v] w fun e w' => e = .returned (.bool (treeL l)) ∧ w = w' := by
 obtain ⟨A0,n,cp0,rfl,hnl,-⟩ := hv.form
 have HV := Lib.hid hv
 have HN := Lib.hid hnl
 have hn' : n ≤ 1000000 := by omega
 obtain ⟨R,hR⟩ : ∃ R,R = treeL l := ⟨_,rfl⟩
 have HR := Lib.hid hR
 rw [← hR]
 clear hv hnl hn hR
 go_enter Tryz.func115,Tryz.ntmps115
 go_wp2_with fail
 go_loop [3,4,9] (fun s c i => ∃ k : Nat,k ≤ n ∧ i = .int .i64 k ∧ s = .int .i64 (sum11 (l.take k) : Nat) ∧ c = .int .i64 (usedL (l.take k)).length ∧ Hid ((l.take k).all (finM 11) = true)) (fun _ _ i => n - (intOf i).toNat)
 case atStart => exact ⟨0,Nat.zero_le _,rfl,rfl,rfl,by simp [Hid]⟩
 case round =>
  obtain ⟨k,hk,rfl,rfl,rfl,hall⟩ := hrel
  by_cases hlt : k < n
  ·obtain ⟨x,hx⟩ : ∃ x,l[k]? = some x := ⟨_,List.getElem?_eq_getElem (by have := HN.out;omega)⟩
   obtain ⟨b,o,rfl,hb,hc⟩ := HV.out.at hx
   have hcap := HV.out.cap
   have hkn : (k : Int) < (n : Int) := by omega
   have hs1 := sum11_le (l.take k)
   have hs2 : (l.take k).length ≤ k := List.length_take_le _ _
   have hu1 := usedT_len l k
   have HST : Hid (sum11 (l.take (k + 1)) = sum11 (l.take k) + if 0 < x then 2 ^ (11 - x.toNat) else 0) := by show _ = _;rw [take_next hx,sum11_snoc]
   have HUC := Lib.hid (usedL_count hx)
   have HAL : Hid (finM 11 x = true → (l.take (k + 1)).all (finM 11) = true) := fun h => by rw [take_next hx,List.all_append,hall.out];simp [h]
   have HBAD : Hid (finM 11 x = false → R = false) := fun h => by
    rw [HR.out,Bool.eq_false_iff]
    intro ht
    have := (treeL_iff.1 ht).2.1 x (List.mem_of_getElem? hx)
    rw [← Bool.not_eq_true,finM_iff] at h
    exact h this
   obtain ⟨S,hS⟩ : ∃ S,S = sum11 (l.take k) := ⟨_,rfl⟩
   obtain ⟨U,hU⟩ : ∃ U,U = (usedL (l.take k)).length := ⟨_,rfl⟩
   rw [← hS] at hs1 HST ⊢
   rw [← hU] at hu1 HUC ⊢
   have hS9 : (S : Int) ≤ 1024000000 := by omega
   have hU9 : (U : Int) ≤ 1000000 := by omega
   clear hx hS hU hs1 hs2
   by_cases hx0 : x < 0
   ·obtain rfl := HBAD.out (by simp [finM];omega)
    go_wp2_with fail
    go_ret
    exact ⟨rfl,rfl⟩
   ·have d0 : decide (x < 0) = false := decide_eq_false hx0
    by_cases hx11 : 11 < x
    ·obtain rfl := HBAD.out (by simp [finM];omega)
     go_wp2_with fail
     go_ret
     exact ⟨rfl,rfl⟩
    ·have d1 : decide (11 < x) = false := decide_eq_false hx11
     have NAL := Lib.hid (HAL.out (finM_iff.2 ⟨by omega,by omega⟩))
     by_cases hp : 0 < x
     ·obtain ⟨X,rfl⟩ : ∃ X : Nat,x = (X : Int) := ⟨x.toNat,by omega⟩
      have hX1 : 1 ≤ X := by omega
      have hX2 : X ≤ 11 := by omega
      have wsub : IntKind.i64.wrap (11 - (X : Int)) = ((11 - X : Nat) : Int) := by rw [IntWalk.i64_in _ (by omega)];omega
      have hsum : Hid (wrap64 ((S : Int) + wrap64 ((2 : Int) ^ (11 - X))) = ((sum11 (l.take (k + 1)) : Nat) : Int)) := by
       obtain ⟨h3,h4⟩ := pow11 hX1 hX2
       show _ = _
       rw [h3,HST.out,if_pos hp,Int.toNat_natCast]
       clear h3
       generalize 2 ^ (11 - X) = P at *
       rw [IntWalk.wrap64_in _ ⟨by omega,by omega⟩]
       omega
      clear HBAD HAL HST
      go_wp2_with fail
      go_round
      case rel => exact ⟨k + 1,by omega,by go_num,by rw [hsum.out],by rw [HUC.out,if_pos hp];go_num,NAL⟩
      case measure => simp [intOf];omega
     ·have d2 : decide (0 < x) = false := decide_eq_false hp
      clear HBAD HAL
      go_wp2_with fail
      go_round
      case rel => exact ⟨k + 1,by omega,by go_num,by rw [HST.out,if_neg hp,Nat.add_zero],by rw [HUC.out,if_neg hp,Nat.add_zero],NAL⟩
      case measure => simp [intOf];omega
  ·obtain rfl : k = n := by omega
   have hR2 : Hid (R = ((decide ((k : Int) ≤ 256) && decide (1 < ((usedL (l.take k)).length : Int))) && ((sum11 (l.take k) : Nat) : Int) == 2048)) := by
    have e : l.take k = l := List.take_of_length_le (by have := HN.out;omega)
    have h1 := hall.out
    rw [e] at h1
    show _ = _
    rw [HR.out,e,Bool.eq_iff_iff]
    have h2 := HN.out
    simp [treeL,h1,← h2]
    omega
   have HR2 := Lib.hid hR2.out
   clear hR2 HR
   generalize sum11 (l.take k) = S at *
   generalize (usedL (l.take k)).length = U at *
   go_wp2_with fail
   all_goals
    go_ret
    refine ⟨ret_bool ?_,rfl⟩
    rw [HR2.out]
    first | (simp [*];done) | (simp [*];omega)
end

section
open Go.RowKit

def raisedBy (n : Int) (b : Bool) : PanicEntry := { v := .iface 33 (.int .i64 n),recovered := b }

theorem index1_any (bf : Nat) (b : Bool) (w : World) (h : Blk w bf #[.bool b] 4) :
  Calls Tryz.prog 182 #[.slice (some ⟨bf,0,none⟩) 1 1,.bool false] w fun e w' => e = .returned (.int .i64 (if b then -1 else 0)) ∧ w = w' := by
 obtain ⟨c0,-⟩ := h.one
 cases b with
 | false =>
  go_enter Tryz.func182,Tryz.ntmps182
  go_wp2_with fail
  refine wp_loop_rounds 1 ?_
  rw [rounds_succ]
  go_wp2_with fail
  go_ret
  exact ⟨rfl,rfl⟩
 | true =>
  go_enter Tryz.func182,Tryz.ntmps182
  go_wp2_with fail
  refine wp_loop_rounds 2 ?_
  rw [rounds_succ]
  go_wp2_with fail
  rw [rounds_succ]
  go_wp2_with fail
  go_ret
  exact ⟨rfl,rfl⟩
def ConOk (vf : Value) (ok : Bool) (w : World) : Prop := ∀ w',Keeps w w' [] → Calls Tryz.prog 149 #[vf,.bool false] w' fun e w'' => e = .returned (.bool (!ok)) ∧ w' = w''
theorem contains1_any (bf : Nat) (b : Bool) (w : World) (h : Blk w bf #[.bool b] 4) : ConOk (.slice (some ⟨bf,0,none⟩) 1 1) b w := fun w' k => by
 have G := Lib.hid (index1_any bf b w' (h.keeps k (by simp)))
 clear h k
 cases b
 all_goals
  simp only [Bool.false_eq_true,if_false,if_true] at G
  go_enter Tryz.func149,Tryz.ntmps149
  go_wp2_with (go_at_call 182;refine G.out.mono ?_;rintro e w5 ⟨rfl,rfl⟩)
  go_ret
  exact ⟨rfl,rfl⟩
theorem cmust_yes (n : Int) (bf : Nat) (w : World) (h : Blk w bf #[.bool true] 4) : Calls Tryz.prog 114 #[.int .i64 n,.slice (some ⟨bf,0,none⟩) 1 1] w fun e w' => e = .returned (.tuple #[]) ∧ w = w' := by
 have G := Lib.hid (contains1_any bf true w h w (Keeps.refl w []))
 clear h
 go_enter Tryz.func114,Tryz.ntmps114
 go_wp2_with (go_at_call 149;refine G.out.mono ?_;rintro e w5 ⟨rfl,rfl⟩)
 go_end0
 exact ⟨rfl,rfl⟩
theorem cmust_no (n : Int) (bf : Nat) (w : World) (h : Blk w bf #[.bool false] 4) : Calls Tryz.prog 114 #[.int .i64 n,.slice (some ⟨bf,0,none⟩) 1 1] w fun e w' => e = .panicked [raisedBy n false] ∧ w = w' := by
 have G := Lib.hid (contains1_any bf false w h w (Keeps.refl w []))
 clear h
 go_enter Tryz.func114,Tryz.ntmps114
 go_wp2_with (go_at_call 149;refine G.out.mono ?_;rintro e w5 ⟨rfl,rfl⟩)
 exact ⟨rfl,rfl,rfl⟩
theorem RdI.cut {k : IntKind} {w : World} {A : Option Addr} {n cp : Nat} {l : List Int} (h : RdI k w (.slice A n cp) l) : RdI k w (.slice A n n) l := by
 obtain ⟨⟨a,n',c,he,hn,h1,h2⟩⟩ := h
 injection he with e1 e2 e3
 subst e1 e2 e3
 exact ⟨_,_,_,rfl,hn,(fun h => ⟨(h1 h).1,(h1 h).1⟩),fun h => ⟨Nat.le_refl _,(h2 h).2⟩⟩
theorem Blk.newA {w : World} {cs : Array Value} {T : TypeId} {b : Nat} (h : w.heap.size = b) : Blk (w.alloc (.cells cs T)) b cs T := h ▸ Blk.new w cs T

set_option maxHeartbeats 2000000 in
theorem cof_yes (A0 : Option Addr) (n cp0 : Nat) (l : List Int) (w : World) (hv : RdI .i64 w (.slice A0 n cp0) l) (hn : l.length ≤ 1000000) (ht : treeL l = true) :
  Calls Tryz.prog 72 #[.slice A0 n cp0] w fun e w' => e = .returned (.agg #[.slice A0 n n]) ∧ Keeps w w' [] := by
 have HR := Lib.hid (fun w' (k : Keeps w w' []) => ht ▸ c_right _ l w' (hv.keeps k) hn)
 have hcap := hv.cap
 obtain ⟨b,o,rfl,-,-⟩ := hv.addr (by
  have := (treeL_iff.1 ht).2.2.1
  have := usedL_len l
  have := hv.len
  omega)
 clear hv hn ht
 go_enter Tryz.func72,Tryz.ntmps72
 go_wp2_with fail
 refine (HR.out _ ((Keeps.refl w []).alloc _)).mono ?_
 rintro e w1 ⟨rfl,rfl⟩
 go_wp2_with (go_at_call 114;refine (cmust_yes _ _ _ (Blk.newA (by simp))).mono ?_;rintro e w5 ⟨rfl,rfl⟩)
 refine bodyPost_ret (v := .agg #[.slice (some ⟨b,o,none⟩) n n]) (by simp only [results,Tryz.results72];go_simp) rfl ⟨rfl,?_⟩
 exact ((Keeps.refl w []).alloc _).alloc _

theorem cof_no (v : Value) (l : List Int) (w : World) (hv : RdI .i64 w v l) (hn : l.length ≤ 1000000) (ht : treeL l = false) :
  Calls Tryz.prog 72 #[v] w fun e w' => e = .panicked [raisedBy 12 false] ∧ Keeps w w' [] := by
 have HR := Lib.hid (fun w' (k : Keeps w w' []) => ht ▸ c_right _ l w' (hv.keeps k) hn)
 obtain ⟨A0,n,cp0,rfl,-,-⟩ := hv.form
 clear hv hn ht
 go_enter Tryz.func72,Tryz.ntmps72
 go_wp2_with fail
 refine (HR.out _ ((Keeps.refl w []).alloc _)).mono ?_
 rintro e w1 ⟨rfl,rfl⟩
 go_wp2_with (go_at_call 114;refine (cmust_no _ _ _ (Blk.newA (by simp))).mono ?_;rintro e w5 ⟨rfl,rfl⟩)
 exact ⟨rfl,rfl,((Keeps.refl w []).alloc _).alloc _⟩

theorem ccaught_idle (p : Addr) (f : Value) (w : World) :
  CallsD Tryz.prog 70 #[.pointer (some p),f] .returning w fun e u' w' => e = .returned (.tuple #[]) ∧ u' = .returning ∧ w' = w := by
 refine callsD_of_wpS Tryz.func70 rfl fun c₀ cs hu => ?_
 simp only [Tryz.ntmps70,List.size_toArray,List.length_cons,List.length_nil,Nat.reduceAdd,Nat.reduceSub,Array.replicate_succ,Array.replicate_zero,List.push_toArray,List.append_toArray,List.nil_append,List.cons_append]
 apply wpS_seq
 apply wpS_region
 simp [wpOpsS,go_sem,recoverD,hu,Exit.thenS]
 refine wpS_of_wp ?_
 have HU := Lib.hid hu
 clear hu
 go_wp2
 refine ⟨rfl,.returning,?_,.tuple #[],by simp [results,Tryz.results70],rfl,rfl,rfl⟩
 have hu := HU.out
 cases c₀
 simp_all

theorem mxL_take {l : List Int} {k : Nat} {x : Int} (h : l[k]? = some x) : mxL (l.take (k + 1)) = max (mxL (l.take k)) x := by
 rw [take_next h,mxL_snoc]

set_option maxHeartbeats 2000000 in
theorem cmax_any (v : Value) (l : List Int) (w : World) (hv : RdI .i64 w v l) (hn : l.length ≤ 1000000) (h0 : 0 < l.length) (hp : ∀ x ∈ l,0 ≤ x) :
  Calls Tryz.prog 174 #[v] w fun e w' => e = .returned (.int .i64 (mxL l)) ∧ w = w' := by
 obtain ⟨A0,n,cp0,rfl,hnl,-⟩ := hv.form
 have HV := Lib.hid hv
 have HN := Lib.hid hnl
 have HP := Lib.hid hp
 have hn' : n ≤ 1000000 := by omega
 have hn0 : 0 < n := by omega
 clear hv hnl hn h0 hp
 obtain ⟨x0,hx0⟩ : ∃ x,l[0]? = some x := ⟨_,List.getElem?_eq_getElem (by have := HN.out;omega)⟩
 obtain ⟨b,o,rfl,hb,hc⟩ := HV.out.at hx0
 rw [Nat.add_zero] at hc
 have hcap := HV.out.cap
 have hnI : decide ((n : Int) < 1) = false := decide_eq_false (by omega)
 have H1 : Hid (mxL (l.take 1) = x0) := by
  show _ = _
  have := mxL_take hx0
  simp only [Nat.zero_add,List.take_zero] at this
  have h2 := HP.out x0 (List.mem_of_getElem? hx0)
  rw [this,show mxL [] = 0 from rfl]
  omega
 clear hx0
 go_enter Tryz.func174,Tryz.ntmps174
 go_wp2_with fail
 go_loop [3,4] (fun m i => ∃ k : Nat,1 ≤ k ∧ k ≤ n ∧ i = .int .i64 k ∧ m = .int .i64 (mxL (l.take k))) (fun _ i => n - (intOf i).toNat)
 case atStart => exact ⟨1,Nat.le_refl _,by omega,rfl,by rw [H1.out]⟩
 case round =>
  obtain ⟨k,hk1,hk,rfl,rfl⟩ := hrel
  clear hc
  by_cases hlt : k < n
  ·obtain ⟨x,hx⟩ : ∃ x,l[k]? = some x := ⟨_,List.getElem?_eq_getElem (by have := HN.out;omega)⟩
   obtain ⟨b',o',hbo,hb,hc⟩ := HV.out.at hx
   obtain ⟨rfl,rfl⟩ : b = b' ∧ o = o' := by simpa using hbo
   clear hbo
   have hkn : (k : Int) < (n : Int) := by omega
   have HM := Lib.hid (mxL_take hx)
   obtain ⟨M,hM⟩ : ∃ M,M = mxL (l.take k) := ⟨_,rfl⟩
   rw [← hM] at HM ⊢
   clear hM hx
   go_wp2_with fail
   go_round
   case rel => exact ⟨k + 1,by omega,by omega,by go_num,by rw [HM.out];try (congr 1;split <;> omega)⟩
   case measure => simp [intOf];omega
  ·obtain rfl : k = n := by omega
   have e : l.take k = l := List.take_of_length_le (by have := HN.out;omega)
   rw [e]
   go_wp2_with fail
   go_ret
   exact ⟨rfl,rfl⟩

def NumEnd (w : World) (x n : Int) (e : Ending) (w' : World) : Prop := e = .returned (.tuple #[.int .i64 x,.int .i64 n]) ∧ Keeps w w' []

set_option maxHeartbeats 2000000 in
theorem cmaxLen_yes (v : Value) (l : List Int) (w : World) (hv : RdI .i64 w v l) (hn : l.length ≤ 1000000) (ht : treeL l = true) : Calls Tryz.prog 142 #[v] w (NumEnd w (mxL l) 0) := by
 have hmf : ∀ (fn : Fn) (first cap : Array Value) (w : World),(Instr.makeFunc fn first cap).run Tryz.prog w = .ok (.func fn first cap) w := fun _ _ _ _ => rfl
 obtain ⟨A0,n,cp0,rfl,hnl,-⟩ := hv.form
 have hff : ∀ (u : Value) (w : World),(Instr.field 100 (.agg #[u]) 0).run Tryz.prog w = .ok u w := fun _ _ => rfl
 have HO := Lib.hid (fun w' (k : Keeps w w' []) => cof_yes A0 n cp0 l w' (hv.keeps k) hn ht)
 have HM := Lib.hid (fun w' (k : Keeps w w' []) => cmax_any (.slice A0 n n) l w' ((hv.cut).keeps k) hn (by
   have := (treeL_iff.1 ht).2.2.1
   have := usedL_len l
   omega) (fun x hx => ((treeL_iff.1 ht).2.1 x hx).1))
 clear hv hnl ht
 go_enter_defers Tryz.func142,Tryz.ntmps142
 go_wp2_with fail
 have k0 : Keeps w ((w.alloc (.cells #[.int .i64 0] 3)).alloc (.cells #[.int .i64 0] 33)) [] := ((Keeps.refl w []).alloc _).alloc _
 have bo := (Blk.new w #[.int .i64 0] 3).alloc (.cells #[.int .i64 0] 33)
 have be := Blk.new (w.alloc (.cells #[.int .i64 0] 3)) #[.int .i64 0] 33
 simp only [World.size_alloc] at be
 refine (HO.out _ k0).mono ?_
 rintro e w1 ⟨rfl,k1⟩
 replace bo := bo.keeps k1 (by simp)
 replace be := be.keeps k1 (by simp)
 replace k0 := k0.then k1
 clear k1
 obtain ⟨e0,e1⟩ := be.one
 obtain ⟨o0,o1⟩ := bo.one
 go_wp2_with fail
 refine (HM.out _ k0).mono ?_
 rintro e w3 ⟨rfl,rfl⟩
 go_wp2_with fail
 refine leaves_cons (f := 70) (args := #[.pointer (some ⟨w.heap.size + 1,0,none⟩),.func (.func 173) #[] #[.pointer (some ⟨w.heap.size,0,none⟩)]]) (by simp) (by simp [go_sem]) ?_
 refine (ccaught_idle _ _ _).mono ?_
 rintro e u' w'' ⟨rfl,rfl,rfl⟩
 refine ⟨.tuple #[.int .i64 (mxL l),.int .i64 0],by simp only [results,Tryz.results142];go_simp,?_⟩
 refine ⟨rfl,?_⟩
 exact Keeps.setCell' (.inl (by dsimp only;omega)) (Keeps.setCell' (.inl (by dsimp only;omega)) k0)
end

section
open Go.RowKit

def upto {α : Type} (f : Nat → α) (k : Nat) : List α := (List.range k).map f
theorem upto_succ {α : Type} (f : Nat → α) (k : Nat) : upto f (k + 1) = upto f k ++ [f k] := by simp [upto,List.range_succ]
theorem upto_length {α : Type} (f : Nat → α) (k : Nat) : (upto f k).length = k := by simp [upto]
theorem upto_prefix {α : Type} (f : Nat → α) {k n : Nat} (h : k ≤ n) : upto f k <+: upto f n := by
 obtain ⟨m,rfl⟩ := Nat.le.dest h
 induction m with
 | zero => exact List.prefix_refl _
 | succ m ih =>
  rw [← Nat.add_assoc,upto_succ]
  exact (ih (Nat.le_add_right _ _)).trans (List.prefix_append _ _)
theorem upto_next {α : Type} {f : Nat → α} {k n : Nat} {x : α} (h : upto f k ++ [x] <+: upto f n) : k < n ∧ x = f k := by
 have hl := h.length_le
 simp only [List.length_append,upto_length,List.length_cons,List.length_nil] at hl
 refine ⟨by omega,?_⟩
 have h2 : upto f k ++ [f k] <+: upto f n := by rw [← upto_succ];exact upto_prefix f (by omega)
 have h3 := (List.prefix_iff_eq_take.1 h).trans ((by simp [upto_length]) : _ = List.take (upto f k ++ [f k]).length (upto f n))
 rw [← List.prefix_iff_eq_take.1 h2] at h3
 simpa using h3

theorem Turn.below {X : World} {D : Nat} {o o' : Obj} (h : X.heap[D]? = some o) {B : Nat} (hB : B ≤ D) : Below B X (X.putObj D o') :=
 ⟨rfl,rfl,rfl,by simp,fun k hk => World.putObj_heap_other (by omega)⟩
end

section
open Go.RowKit

attribute [local go_sem] Oper.semAt_some

abbrev encBB (x : Nat × Int) : Array Value := #[.int .i64 (x.1 : Int),.int .u8 x.2]
def backF (l : List Int) (j : Nat) : Nat × Int := (l.length - 1 - j,(l[l.length - 1 - j]?).getD 0)
def blocksOf : Value → List Nat
 | .slice (some a) n _ => if 0 < n then [a.block] else []
 | _ => []

theorem RdI.same {k : IntKind} {w w' : World} {v : Value} {l : List Int} (h : RdI k w v l) (hs : SameAt (blocksOf v) w w') : RdI k w' v l := by
 obtain ⟨a,n,c,rfl,h1,h2,h3⟩ := h.form
 refine ⟨a,n,c,rfl,h1,h2,fun h0 => ?_⟩
 obtain ⟨h4,b,o,rfl,h5,h6⟩ := h3 h0
 have hb : w'.heap[b]? = w.heap[b]? := hs b (by simp [blocksOf,h0])
 refine ⟨h4,b,o,rfl,?_,fun i x hx => ?_⟩
 ·rw [Array.getElem?_eq_getElem h5] at hb
  exact (Array.getElem?_eq_some_iff.1 hb).1
 ·exact (World.cell?_of_block (a := ⟨b,o + i,none⟩) hb).trans (h6 i x hx)

set_option maxHeartbeats 2000000 in
theorem backY (Bs : Nat) (v : Value) (l : List Int) (w : World) (hBs : Blk w Bs #[v] 22) (hr : RdI .u8 w v l) (hn : l.length ≤ 1000000) :
  SeqY Tryz.prog 156 #[.pointer (some ⟨Bs,0,none⟩)] encBB ([Bs] ++ blocksOf v) (fun _ => True)
   (fun ys => ys = upto (backF l) l.length) (fun pre => pre <+: upto (backF l) l.length) w := by
 intro lo J Jx W hW hJ hJx hY h0
 have hBs' : Blk W Bs #[v] 22 := (hW Bs (by simp)).trans hBs
 have hr' := hr.same (hW.mono (fun k hk => List.mem_append.2 (.inr hk)))
 obtain ⟨a,n,c,rfl,hnl,-⟩ := hr.form
 have HB := Lib.hid hBs'
 have HR := Lib.hid hr'
 have HN := Lib.hid hnl
 have HY := Lib.hid hY
 have hn' : n ≤ 1000000 := by omega
 obtain ⟨c0,-⟩ := hBs'.one
 have hwr : wrap64 ((n : Int) - 1) = (n : Int) - 1 := IntWalk.wrap64_in _ ⟨by omega,by omega⟩
 clear hBs hr hBs' hr' hnl hY hn hJ hJx hW
 refine callsIn_of_wp Tryz.func156 rfl trivial ?_ rfl
 simp only [Tryz.ntmps156,List.size_toArray,List.length_cons,List.length_nil,Nat.reduceAdd,Nat.reduceSub,Array.replicate_succ,Array.replicate_zero,List.push_toArray,List.append_toArray,List.nil_append,List.cons_append]
 gi_wp2
 gi_loopw [3] (fun i wr => ∃ k : Nat,k ≤ n ∧ i = .int .i64 ((n : Int) - 1 - (k : Int)) ∧ Hid (J (upto (backF l) k) wr) ∧ Hid (SameAt ([Bs] ++ blocksOf (.slice a n c)) W wr))
  (fun i _ => ((intOf i) + 1).toNat)
 case atStart => exact ⟨0,Nat.zero_le _,by simp,h0,SameAt.refl _ _⟩
 case round =>
  obtain ⟨k,hk,rfl,hJs,hs⟩ := hrel
  have b1 : Blk wr Bs #[.slice a n c] 22 := (hs.out Bs (by simp)).trans HB.out
  have r1 := HR.out.same (hs.out.mono (fun k hk => List.mem_append.2 (.inr hk)))
  obtain ⟨d0,-⟩ := b1.one
  by_cases hlt : k < n
  ·obtain ⟨q,hq⟩ : ∃ q,q = n - 1 - k := ⟨_,rfl⟩
   have hqi : (n : Int) - 1 - (k : Int) = (q : Int) := by omega
   obtain ⟨x,hx⟩ : ∃ x,l[q]? = some x := ⟨_,List.getElem?_eq_getElem (by have := HN.out;omega)⟩
   obtain ⟨b,o,rfl,hb,e0⟩ := r1.at hx
   have hcap := r1.cap
   have hi : backF l k = (q,x) := by
    have : l.length - 1 - k = q := by have := HN.out;omega
    simp [backF,this,hx]
   have hyy := HY.out (upto (backF l) k) (backF l k) wr hJs.out trivial (by rw [← upto_succ];exact upto_prefix _ (by have := HN.out;omega))
   rw [hi] at hyy
   obtain ⟨fn,tmps,assign,body,hy,hR⟩ := hyy
   dsimp only [encBB] at hy
   have hqn : (q : Int) < (n : Int) := by omega
   have hw1 : wrap64 ((q : Int) - 1) = (q : Int) - 1 := IntWalk.wrap64_in _ ⟨by omega,by omega⟩
   have HI := Lib.hid hi
   have HQ := Lib.hid hq
   rw [hqi]
   clear hx hi b1 r1 hq hqi
   gi_wp2
   refine (round_any hR).mono ?_
   rintro e W3 ⟨hk3,(⟨rfl,hJ3⟩ | ⟨rfl,hJx3⟩)⟩
   ·gi_wp2
    refine ⟨⟨k + 1,by omega,?_,?_,hs.out.trans hk3⟩,?_⟩
    ·congr 1;have := HQ.out;omega
    ·show J _ _
     rw [upto_succ,HI.out];exact hJ3
    ·simp only [intOf];omega
   ·gi_wp2
    refine bodyPost_ret (v := .tuple #[]) (by simp [results,Tryz.results156]) rfl ⟨⟨_,rfl⟩,.inr ⟨_,?_,hJx3⟩⟩
    rw [← HI.out,← upto_succ]
    exact upto_prefix _ (by have := HN.out;omega)
  ·gi_wp2
   go_end0
   exact ⟨⟨_,rfl⟩,.inl ⟨_,by rw [show k = l.length by have := HN.out;omega],hJs.out⟩⟩
end

section
section
variable {P : Program} {md : Region.Mode} {os : List Oper} {Q : Exit → Act → World → Prop} {S : World → Prop}
theorem takeL {i : Nat} {oi : Oper} {v : Value} {fuel : Nat} {listed : Array Bool} {a : Act} {w : World} (hi : os[i]? = some oi)
  (hs : Region.noSelect os.toArray = true) (hf : Region.free md os.toArray listed i = true) (hr : (Region.ready md os.toArray listed).contains i = true)
  (hQ : ∀ c a w,Q (.panic c) (a.put oi.dst v) w → Q (.panic c) a w) (hw : Region.wanted oi (yielded os.toArray a.tmps) = true) (hy : ∀ w,S w → (execOp a.eval oi).run P w = .ok (.value v) w) (hS : S w)
  (h : wpAnyH P md os.toArray Q S fuel (listed.setIfInBounds i true) (a.put oi.dst v) w) : wpAnyH P md os.toArray Q S (fuel + 1) listed a w :=
 wpAnyH_take (by simpa using hi) hs hf hr hQ (Or.inl ⟨hw,hy⟩) hS h
theorem callL {i : Nat} {o : Oper} {fuel : Nat} {listed : Array Bool} {a : Act} {w : World} (hi : os[i]? = some o) (hr : Region.ready md os.toArray listed = [i])
  (h : ∀ K' : Act → World → Prop,Shut (∀ a w,S w → (S w → wpAnyH P md os.toArray Q S fuel (listed.setIfInBounds i true) a w) → K' a w) → if Region.wanted o (yielded os.toArray a.tmps) = true then Oper.wp P o a w K' Q else K' (a.put o.dst undef) w) :
  wpAnyH P md os.toArray Q S (fuel + 1) listed a w :=
 wpAnyH_ready hr (by simp) (AllReadyH.cons (by simpa using hi) h AllReadyH.nil)
end

section
variable {P : Program} {md : Region.Mode} {os : List Oper} {Q : Exit → Act → World → Prop} {S : World → Prop}
/-- takeL with what is always shown alike left out. -/
theorem takeM (i : Nat) {oi : Oper} {v : Value} {fuel : Nat} {listed : Array Bool} {a : Act} {w : World} (hi : os[i]? = some oi) (hy : ∀ w, S w → (execOp a.eval oi).run P w = .ok (.value v) w)
  (h : wpAnyH P md os.toArray Q S fuel (listed.setIfInBounds i true) (a.put oi.dst v) w)
  (hs : Region.noSelect os.toArray = true := by kernel_rfl) (hf : Region.free md os.toArray listed i = true := by kernel_rfl) (hr : (Region.ready md os.toArray listed).contains i = true := by kernel_rfl)
  (hQ : ∀ c a w, Q (.panic c) (a.put oi.dst v) w → Q (.panic c) a w := by exact fun _ _ _ h => h) (hw : Region.wanted oi (yielded os.toArray a.tmps) = true := by rfl) (hS : S w := by assumption) : wpAnyH P md os.toArray Q S (fuel + 1) listed a w :=
 wpAnyH_take (by simpa using hi) hs hf hr hQ (Or.inl ⟨hw, hy⟩) hS h
end
theorem stA {α : Type} (l : List α) (i : Nat) (x : α) : l.toArray.setIfInBounds i x = (l.set i x).toArray := List.setIfInBounds_toArray ..
theorem stZ {α : Type} (x y : α) (l : List α) : (x :: l).set 0 y = y :: l := List.set_cons_zero
theorem stS {α : Type} (x y : α) (l : List α) (n : Nat) : (x :: l).set (n + 1) y = x :: l.set n y := List.set_cons_succ
end

end Go.Proofs.YtcmagccfagijlaaGreat
