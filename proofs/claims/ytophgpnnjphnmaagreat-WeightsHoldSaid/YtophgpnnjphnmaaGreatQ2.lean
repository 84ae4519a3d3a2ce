/-
  A range over a function whose iterator may keep cells of its own: what the iterator promises (SeqB), the law of the statement (range_B). No program is in sight here.
  A range over a function whose iterator may change cells that it has captured (the blocks X): what the iterator promises (SeqX), the law of the statement. No program is in sight here.
  A range over a function whose iterator changes nothing but the blocks X that it has captured: the rounds may change all the rest. What the iterator promises (SeqY), the law of the statement. No program is in sight here.
  Varints. No program is in sight here.
  Histograms: the plain law; lists of byte slices in memory. No program is in sight here.
  The iterator over the bytes of a varint.
  The idiom append([]T{}, x...): a copy of a slice of numbers in memory of the call's own. No program is in sight here.
  Walks: slices.Clone at []byte; rows of bytes.
  A result of type bool that lies in a cell; a function value is not nil.
  Walks: slices.Clone at []byte, num.parts, num.PutVarint.
  A region that draws its order and calls, walked as ONE line of steps: the condition on the world may be chosen anew, and stronger, behind each call. No program is in sight here.
-/
import Derived.Test.YtophgpnnjphnmaaGreatQ1
import Derived.RangeFuncNested
import Derived.RangeFuncBound
import Derived.RangeFuncCalls
import Derived.RangeFuncLeaves
import Derived.OwnWalkIn
import Derived.TacticsInMore
import Derived.LoopNIn
import Derived.LoopIn
import Derived.Scope
import Derived.IntWalk
import Derived.BigFrameIn
import Derived.Test.YtophgpnnjphnmaaGreatRows
import Derived.Shelf.Abstract
import Derived.Deep.RegionHeld3
import Derived.WalkKit
namespace Go.Proofs.YtophgpnnjphnmaaGreat
section
set_option linter.unusedVariables false
set_option linter.unusedSimpArgs false
open Go.RowKit

/-- The iterator g (captured: lb) hands out what S says; Sp: a part of it. The rounds may change the blocks C, all of them older than the iterator's call and fine; the iterator changes none that is older than its call. -/
def SeqB {α : Type} (P : Program) (g : Nat) (lb : Array Value) (encs : α → Array Value) (fine : Nat → Prop) (S Sp : List α → Prop) (w : World) : Prop :=
  ∀ (l : Nat) (C : List Nat) (J Jx : List α → World → Prop) (W : World), Below w.heap.size w W → (∀ k ∈ C, k < W.heap.size ∧ fine k) →
    (∀ s A B, J s A → Below W.heap.size A B → J s B) → (∀ s A B, Jx s A → Below W.heap.size A B → Jx s B) →
    (∀ pre x W1, J pre W1 → Sp (pre ++ [x]) → YieldAt Fence.wide 9 P l (encs x) W1 fun e W' =>
      (e = .returned (.bool true) ∧ J (pre ++ [x]) W' ∧ Keeps W1 W' C) ∨ (e = .returned (.bool false) ∧ Jx (pre ++ [x]) W' ∧ Keeps W1 W' C)) →
    J [] W →
    CallsIn Fence.wide 9 P g (#[.func (.yield l) #[] #[]] ++ lb) W fun e W' => (∃ v, e = .returned v) ∧ ((∃ xs, S xs ∧ J xs W') ∨ (∃ pre, Sp pre ∧ Jx pre W'))

/-- Block l, a loop's record, has turned; nothing else. -/
def Turned (l : Nat) (W W' : World) : Prop := ∃ r r', W.heap[l]? = some (.loop r) ∧ W' = W.putObj l (.loop r')

theorem Turned.keeps {l : Nat} {W W' : World} (h : Turned l W W') : Keeps W W' [l] := by
  obtain ⟨r, r', _, rfl⟩ := h
  exact ⟨rfl, rfl, rfl, by simp, fun k _ hn => World.putObj_heap_other (by simpa using hn)⟩
theorem Turned.below {l : Nat} {W W' : World} (h : Turned l W W') {B : Nat} (hB : B ≤ l) : Below B W W' := by
  obtain ⟨r, r', _, rfl⟩ := h
  exact ⟨rfl, rfl, rfl, by simp, fun k hk => World.putObj_heap_other (by omega)⟩
theorem Turned.blk {l : Nat} {W W' : World} (h : Turned l W W') {b : Nat} {cs : Array Value} {T : TypeId} (hb : Blk W b cs T) : Blk W' b cs T := by
  obtain ⟨r, r', hr, rfl⟩ := h
  refine (World.putObj_heap_other ?_).trans hb
  intro e
  subst e
  have hb' : W.heap[b]? = some (.cells cs T (0, 0)) := hb
  rw [hr] at hb'
  cases hb'
theorem Turned.size {l : Nat} {W W' : World} (h : Turned l W W') : W'.heap.size = W.heap.size := by
  obtain ⟨r, r', _, rfl⟩ := h; simp

/-- How a round's body may be left. -/
def postB {α : Type} (C : List Nat) (I : List α → World → Prop) (Ix : Code → List α → World → Prop) (xs : List α) (W : World) : Exit → Act → World → Prop
  | .normal, _, W' => Keeps W W' C ∧ I xs W'
  | .ret, _, W' => Keeps W W' C ∧ Ix .ret xs W'
  | .exit id, _, W' => Keeps W W' C ∧ Ix (.exit id) xs W'
  | .goto t, _, W' => Keeps W W' C ∧ Ix (.goto t) xs W'
  | .panic _, _, _ => False
  | .outgrown, _, _ => False

theorem callsIn_any {n m : Nat} {P : Program} {f : FuncId} {args : Array Value} {w : World} {R : Ending → World → Prop} (h : CallsIn Fence.wide n P f args w R) : CallsIn Fence.wide m P f args w R := callsIn_wide.2 (callsIn_wide.1 h)

theorem round_any {n m : Nat} {P : Program} {l : Nat} {f : FuncId} {tmps : Array Value} {assign body : Code} {w : World} {R : Ending → World → Prop} (h : RoundIn Fence.wide n P l f tmps assign body w R) : RoundIn Fence.wide m P l f tmps assign body w R := ⟨h.1, fun c cs _ => h.2 c cs (room_wide _)⟩
theorem calls_in {n : Nat} {P : Program} {l : Nat} {f : FuncId} {args : Array Value} {w : World} {R : Ending → World → Prop} (h : Calls P f args w R) : CallsIn (Fence.wide.inRound l) n P f args w R := CallsIn.inRound l (callsIn_wide.2 h)

/-- THE STATEMENT 'for .. := range g { .. }', outside of any round. -/
theorem range_B {α : Type} {P : Program} {n : Nat} {g : Operand} {ps : Array Tmp} {assign body : Code} {Q : Exit → Act → World → Prop} {a : Act} {w : World}
    {gf : Nat} {lb : Array Value} (hg : a.eval g = .func (.func gf) #[] lb) (eg : ∀ args w, (callFunc gf args).run P w = .ok (.enter gf args) w)
    {encs : α → Array Value} {fine : Nat → Prop} {S Sp : List α → Prop} (hseq : SeqB P gf lb encs fine S Sp w)
    (C : List Nat) (hC : ∀ k ∈ C, k < w.heap.size ∧ fine k) (hfine : fine (w.heap.size + 1)) (hps : ∀ x, (encs x).size = ps.size)
    (I : List α → World → Prop) (Ix : Code → List α → World → Prop) (hI : ∀ s A B, I s A → Below w.heap.size A B → I s B) (hIx : ∀ c s A B, Ix c s A → Below w.heap.size A B → Ix c s B) (h0 : I [] w)
    (hround : ∀ (l : Nat) (pre : List α) (x : α) (W : World), w.heap.size ≤ l → l < W.heap.size → I pre W → Sp (pre ++ [x]) →
      assign.wpIn (Fence.wide.inRound l) 9 P (Exit.then (fun a' W' => Keeps W W' C ∧ ∀ W2, Turned l W' W2 → body.wpIn (Fence.wide.inRound l) 9 P (postB C I Ix (pre ++ [x]) W2) a' W2) (fun _ _ _ => False))
        { tmps := (ps.zip (encs x)).foldl (fun t (p, v) => t.setIfInBounds p v) a.tmps, defers := [] } W)
    (hdone : ∀ (D : Nat) (xs : List α) (W : World), w.heap.size ≤ D → S xs → I xs W → W.heap[D]? = some (.deferred (some [])) → Q .normal { a with defers := { target := .collected D, args := #[] } :: a.defers } W)
    (hstop : ∀ (D : Nat) (c : Code) (pre : List α) (W : World), w.heap.size ≤ D → Sp pre → Ix c pre W → W.heap[D]? = some (.deferred (some [])) → c.wpIn Fence.wide n P Q { a with defers := { target := .collected D, args := #[] } :: a.defers } W) :
    (Code.rangeFunc g ps assign body).wpIn Fence.wide n P Q a w := by
  refine wpIn_rangeFunc ?_
  intro fn hfn
  obtain ⟨rec, hrec⟩ : ∃ rec : LoopState → Option Code → Loop, rec = fun st pe => { state := st, pending := pe, fn, tmps := a.tmps, params := ps, assign, body, defers := w.heap.size } := ⟨_, rfl⟩
  obtain ⟨W1, hW1⟩ : ∃ W1, (w.alloc (.deferred (some []))).alloc (.loop (rec .ready none)) = W1 := ⟨_, rfl⟩
  have hs1 : W1.heap.size = w.heap.size + 2 := by rw [← hW1]; simp
  have hB1 : Below w.heap.size w W1 := by rw [← hW1]; exact ((Below.refl _ w).alloc (Nat.le_refl _) _).alloc (by simp) _
  have hL1 : W1.heap[w.heap.size + 1]? = some (.loop (rec .ready none)) := by
    rw [← hW1]; have := World.alloc_heap_new (w.alloc (.deferred (some []))) (.loop (rec .ready none)); rwa [World.size_alloc] at this
  have hK1 : W1.heap[w.heap.size]? = some (.deferred (some [])) := by
    rw [← hW1]; exact (Below.heap_alloc _ _ _ (by simp)).trans (World.alloc_heap_new w _)
  -- what lies older than the iterator's call is handed on by whatever the iterator does
  have turn : ∀ {A : World} {r : Loop} (r' : Loop), A.heap[w.heap.size + 1]? = some (.loop r) → Below w.heap.size A (A.putObj (w.heap.size + 1) (.loop r')) := fun r' h =>
    Turned.below ⟨_, r', h, rfl⟩ (Nat.le_succ _)
  refine ⟨w.heap.size + 1, [{ target := .collected w.heap.size, args := #[] }], W1, { target := .fn (.func gf) lb, args := #[.func (.yield (w.heap.size + 1)) #[] #[]] }, W1, gf,
    #[.func (.yield (w.heap.size + 1)) #[] #[]] ++ lb, W1, ?_, ?_, fun _ _ => trivial, ?_, fun h => by simp [Fence.wide] at h, callsIn_any (n := 9) ?_⟩
  · rw [← hW1, hrec]; exact run_enterLoop_outer _ _ _ _ _
  · simp only [resolve, hg]
    simp [go_sem]
  · simp [invoke, go_sem, eg]
  refine (hseq (w.heap.size + 1) (C ++ [w.heap.size + 1])
    (fun pre W => I pre W ∧ W.heap[w.heap.size + 1]? = some (.loop (rec .ready none)) ∧ W.heap[w.heap.size]? = some (.deferred (some [])))
    (fun pre W => ∃ c, Ix c pre W ∧ W.heap[w.heap.size + 1]? = some (.loop (rec .done (some c))) ∧ W.heap[w.heap.size]? = some (.deferred (some [])))
    W1 hB1 ?_ ?_ ?_ ?_ ⟨hI _ _ _ h0 hB1, hL1, hK1⟩).mono ?_
  · intro k hk
    rcases List.mem_append.1 hk with hk | hk
    · exact ⟨by have := (hC k hk).1; omega, (hC k hk).2⟩
    · simp at hk; subst hk; exact ⟨by omega, hfine⟩
  · rintro s A B ⟨hi, hl, hk⟩ hb
    exact ⟨hI _ _ _ hi (hb.mono (by omega)), (hb.block _ (by omega)).trans hl, (hb.block _ (by omega)).trans hk⟩
  · rintro s A B ⟨c, hi, hl, hk⟩ hb
    exact ⟨c, hIx _ _ _ _ hi (hb.mono (by omega)), (hb.block _ (by omega)).trans hl, (hb.block _ (by omega)).trans hk⟩
  · -- one round
    rintro pre x W ⟨hi, hl, hk⟩ hsp
    have hlt : w.heap.size + 1 < W.heap.size := (Array.getElem?_eq_some_iff.1 hl).1
    have hy := run_yield (P := P) (args := encs x) hl (by rw [hrec]; exact hps x)
    rw [hrec] at hy
    refine ⟨fn, _, assign, body, hy, roundIn_of_wpIn hfn (wpIn_mono (hround _ pre x W (Nat.le_succ _) hlt hi hsp) ?_)⟩
    clear hy
    rintro e a' Wa hq
    cases e with
    | normal =>
      obtain ⟨hka, hbody⟩ := hq
      have notC : ∀ k, w.heap.size ≤ k → k ∉ C := fun k h hm => by have := (hC k hm).1; omega
      have hla := (hka.block _ hlt (notC _ (by omega))).trans hl
      have hKa := (hka.block _ (by omega) (notC _ (by omega))).trans hk
      have hlta : w.heap.size + 1 < Wa.heap.size := (Array.getElem?_eq_some_iff.1 hla).1
      refine ⟨_, run_beginRound hla (by rw [hrec]), ?_⟩
      have hT : Turned (w.heap.size + 1) Wa (Wa.putObj (w.heap.size + 1) (.loop { rec .ready none with state := .busy })) := ⟨_, _, hla, rfl⟩
      have hl2 : (Wa.putObj (w.heap.size + 1) (.loop { rec .ready none with state := .busy })).heap[w.heap.size + 1]? = some (.loop { rec .ready none with state := .busy }) := World.putObj_heap_same hlta
      have hk2 : (Wa.putObj (w.heap.size + 1) (.loop { rec .ready none with state := .busy })).heap[w.heap.size]? = some (.deferred (some [])) := (World.putObj_heap_other (by omega)).trans hKa
      have hka2 : Keeps W (Wa.putObj (w.heap.size + 1) (.loop { rec .ready none with state := .busy })) (C ++ [w.heap.size + 1]) :=
        (hka.mono (fun x hx => List.mem_append.2 (.inl hx))).trans hT.keeps (fun x hx _ => List.mem_append.2 (.inr hx))
      refine wpIn_mono (hbody _ hT) ?_
      have fin : ∀ (jump : Option Code) (W3 : World), Keeps (Wa.putObj (w.heap.size + 1) (.loop { rec .ready none with state := .busy })) W3 C →
          (Instr.endRound (w.heap.size + 1) jump).run P W3 = .ok (.bool jump.isNone) (W3.putObj (w.heap.size + 1) (.loop (rec (if jump.isNone then .ready else .done) jump))) ∧
          Below w.heap.size W3 (W3.putObj (w.heap.size + 1) (.loop (rec (if jump.isNone then .ready else .done) jump))) ∧
          (W3.putObj (w.heap.size + 1) (.loop (rec (if jump.isNone then .ready else .done) jump))).heap[w.heap.size + 1]? = some (.loop (rec (if jump.isNone then .ready else .done) jump)) ∧
          (W3.putObj (w.heap.size + 1) (.loop (rec (if jump.isNone then .ready else .done) jump))).heap[w.heap.size]? = some (.deferred (some [])) ∧
          Keeps W (W3.putObj (w.heap.size + 1) (.loop (rec (if jump.isNone then .ready else .done) jump))) (C ++ [w.heap.size + 1]) := fun jump W3 hk3 => by
        have hl3 := (hk3.block _ (by simp; omega) (notC _ (by omega))).trans hl2
        have hk3' := (hk3.block _ (by simp; omega) (notC _ (by omega))).trans hk2
        have hr := run_endRound (P := P) jump hl3
        have hT3 : Turned (w.heap.size + 1) W3 (W3.putObj (w.heap.size + 1) (.loop (rec (if jump.isNone then .ready else .done) jump))) := ⟨_, _, hl3, rfl⟩
        refine ⟨?_, hT3.below (Nat.le_succ _), World.putObj_heap_same (Array.getElem?_eq_some_iff.1 hl3).1, (World.putObj_heap_other (by omega)).trans hk3', ?_⟩
        · rw [hrec] at hr ⊢; exact hr
        · exact (hka2.trans (hk3.mono (fun x hx => List.mem_append.2 (.inl hx))) (fun x hx _ => hx)).trans hT3.keeps (fun x hx _ => List.mem_append.2 (.inr hx))
      rintro e a3 W3 hp
      cases e with
      | normal =>
        obtain ⟨hk3, hi3⟩ := hp
        obtain ⟨hr, hb4, hl4, hk4, hkk⟩ := fin none W3 hk3
        exact ⟨_, _, hr, .inl ⟨rfl, ⟨hI _ _ _ hi3 hb4, hl4, hk4⟩, hkk⟩⟩
      | ret =>
        obtain ⟨hk3, hi3⟩ := hp
        obtain ⟨hr, hb4, hl4, hk4, hkk⟩ := fin (some .ret) W3 hk3
        exact ⟨_, _, hr, .inr ⟨rfl, ⟨.ret, hIx _ _ _ _ hi3 hb4, hl4, hk4⟩, hkk⟩⟩
      | exit id =>
        obtain ⟨hk3, hi3⟩ := hp
        obtain ⟨hr, hb4, hl4, hk4, hkk⟩ := fin (some (.exit id)) W3 hk3
        exact ⟨_, _, hr, .inr ⟨rfl, ⟨.exit id, hIx _ _ _ _ hi3 hb4, hl4, hk4⟩, hkk⟩⟩
      | goto t =>
        obtain ⟨hk3, hi3⟩ := hp
        obtain ⟨hr, hb4, hl4, hk4, hkk⟩ := fin (some (.goto t)) W3 hk3
        exact ⟨_, _, hr, .inr ⟨rfl, ⟨.goto t, hIx _ _ _ _ hi3 hb4, hl4, hk4⟩, hkk⟩⟩
      | panic ch => exact hp.elim
      | outgrown => exact hp.elim
    | exit id => exact hq.elim
    | goto t => exact hq.elim
    | ret => exact hq.elim
    | panic ch => exact hq.elim
    | outgrown => exact hq.elim
  · -- behind the iterator
    rintro e W2 ⟨⟨v, rfl⟩, (⟨xs, hS, hi, hl, hk⟩ | ⟨pre, hSp, c, hi, hl, hk⟩)⟩
    · exact ⟨none, _, by have := run_endLoop (P := P) hl (by rw [hrec]; simp); rw [hrec] at this; exact this, hdone _ xs _ (Nat.le_refl _) hS (hI _ _ _ hi (turn _ hl)) ((World.putObj_heap_other (by omega)).trans hk)⟩
    · exact ⟨some c, _, by have := run_endLoop (P := P) hl (by rw [hrec]; simp); rw [hrec] at this; exact this, hstop _ c pre _ (Nat.le_refl _) hSp (hIx _ _ _ _ hi (turn _ hl)) ((World.putObj_heap_other (by omega)).trans hk)⟩

/-- THE STATEMENT in the plain walk. -/
theorem range_P {α : Type} {P : Program} {g : Operand} {ps : Array Tmp} {assign body : Code} {Q : Exit → Act → World → Prop} {a : Act} {w : World}
    {gf : Nat} {lb : Array Value} (hg : a.eval g = .func (.func gf) #[] lb) (eg : ∀ args w, (callFunc gf args).run P w = .ok (.enter gf args) w)
    {encs : α → Array Value} {fine : Nat → Prop} {S Sp : List α → Prop} (hseq : SeqB P gf lb encs fine S Sp w)
    (C : List Nat) (hC : ∀ k ∈ C, k < w.heap.size ∧ fine k) (hfine : fine (w.heap.size + 1)) (hps : ∀ x, (encs x).size = ps.size)
    (I : List α → World → Prop) (Ix : Code → List α → World → Prop) (hI : ∀ s A B, I s A → Below w.heap.size A B → I s B) (hIx : ∀ c s A B, Ix c s A → Below w.heap.size A B → Ix c s B) (h0 : I [] w)
    (hround : ∀ (l : Nat) (pre : List α) (x : α) (W : World), w.heap.size ≤ l → l < W.heap.size → I pre W → Sp (pre ++ [x]) →
      assign.wpIn (Fence.wide.inRound l) 9 P (Exit.then (fun a' W' => Keeps W W' C ∧ ∀ W2, Turned l W' W2 → body.wpIn (Fence.wide.inRound l) 9 P (postB C I Ix (pre ++ [x]) W2) a' W2) (fun _ _ _ => False))
        { tmps := (ps.zip (encs x)).foldl (fun t (p, v) => t.setIfInBounds p v) a.tmps, defers := [] } W)
    (hdone : ∀ (D : Nat) (xs : List α) (W : World), w.heap.size ≤ D → S xs → I xs W → W.heap[D]? = some (.deferred (some [])) → Q .normal { a with defers := { target := .collected D, args := #[] } :: a.defers } W)
    (hstop : ∀ (D : Nat) (c : Code) (pre : List α) (W : World), w.heap.size ≤ D → Sp pre → Ix c pre W → W.heap[D]? = some (.deferred (some [])) → c.wp P Q { a with defers := { target := .collected D, args := #[] } :: a.defers } W) :
    (Code.rangeFunc g ps assign body).wp P Q a w :=
  (wpIn_wide (n := 9)).1 (range_B hg eg hseq C hC hfine hps I Ix hI hIx h0 hround hdone (fun D c pre W h1 h2 h3 h4 => wpIn_wide.2 (hstop D c pre W h1 h2 h3 h4)))
end

section
set_option linter.unusedVariables false
set_option linter.unusedSimpArgs false
open Go.RowKit

/-- What lies below n is as it was, but for the blocks X. -/
structure BelowX (X : List Nat) (n : Nat) (w w' : World) : Prop where
  os : w'.os = w.os
  tape : w'.tape = w.tape
  output : w'.output = w.output
  size : w.heap.size ≤ w'.heap.size
  block : ∀ k, k < n → k ∉ X → w'.heap[k]? = w.heap[k]?
theorem BelowX.of {X : List Nat} {n : Nat} {w w' : World} (h : Below n w w') : BelowX X n w w' := ⟨h.os, h.tape, h.output, h.size, fun k hk _ => h.block k hk⟩
theorem BelowX.mono {X : List Nat} {n m : Nat} {w w' : World} (h : BelowX X n w w') (hm : m ≤ n) : BelowX X m w w' := ⟨h.os, h.tape, h.output, h.size, fun k hk hn => h.block k (by omega) hn⟩
/-- The iterator g (captured: lb) hands out what S says; Sp: a part of it. The rounds may change the blocks C, all of them older than the iterator's call and fine; the iterator changes none that is older than its call, but for X. -/
def SeqX {α : Type} (P : Program) (g : Nat) (lb : Array Value) (encs : α → Array Value) (fine : Nat → Prop) (X : List Nat) (S Sp : List α → Prop) (w : World) : Prop :=
  ∀ (l : Nat) (C : List Nat) (J Jx : List α → World → Prop) (W : World), Below w.heap.size w W → (∀ k ∈ C, k < W.heap.size ∧ fine k) →
    (∀ s A B, J s A → BelowX X W.heap.size A B → J s B) → (∀ s A B, Jx s A → BelowX X W.heap.size A B → Jx s B) →
    (∀ pre x W1, J pre W1 → Sp (pre ++ [x]) → YieldAt Fence.wide 9 P l (encs x) W1 fun e W' =>
      (e = .returned (.bool true) ∧ J (pre ++ [x]) W' ∧ Keeps W1 W' C) ∨ (e = .returned (.bool false) ∧ Jx (pre ++ [x]) W' ∧ Keeps W1 W' C)) →
    J [] W →
    CallsIn Fence.wide 9 P g (#[.func (.yield l) #[] #[]] ++ lb) W fun e W' => (∃ v, e = .returned v) ∧ ((∃ xs, S xs ∧ J xs W') ∨ (∃ pre, Sp pre ∧ Jx pre W'))
end

section
set_option linter.unusedVariables false
set_option linter.unusedSimpArgs false
open Go.RowKit

/-- The blocks U are as they were. -/
def SameAt (U : List Nat) (w w' : World) : Prop := ∀ k ∈ U, w'.heap[k]? = w.heap[k]?
theorem SameAt.refl (U : List Nat) (w : World) : SameAt U w w := fun _ _ => rfl
theorem SameAt.trans {U : List Nat} {w w' w'' : World} (h : SameAt U w w') (h' : SameAt U w' w'') : SameAt U w w'' := fun k hk => (h' k hk).trans (h k hk)
theorem SameAt.mono {U V : List Nat} {w w' : World} (h : SameAt U w w') (hs : ∀ k ∈ V, k ∈ U) : SameAt V w w' := fun k hk => h k (hs k hk)
theorem SameAt.of {U C : List Nat} {w w' : World} (h : Keeps w w' C) (hl : ∀ k ∈ U, k < w.heap.size) (hn : ∀ k ∈ U, k ∉ C) : SameAt U w w' := fun k hk => h.block k (hl k hk) (hn k hk)

/-- The iterator g (captured: lb) hands out what S says; Sp: a part of it. It changes the blocks X alone and builds none; Fx: what holds of them ahead of each round. -/
def SeqY {α : Type} (P : Program) (g : Nat) (lb : Array Value) (encs : α → Array Value) (X : List Nat) (Fx : World → Prop) (S Sp : List α → Prop) (w : World) : Prop :=
  ∀ (l : Nat) (J Jx : List α → World → Prop) (W : World), SameAt X w W →
    (∀ s A B, J s A → Keeps A B X → J s B) → (∀ s A B, Jx s A → Keeps A B X → Jx s B) →
    (∀ pre x W1, J pre W1 → Fx W1 → Sp (pre ++ [x]) → YieldAt Fence.wide 9 P l (encs x) W1 fun e W' => SameAt X W1 W' ∧
      ((e = .returned (.bool true) ∧ J (pre ++ [x]) W') ∨ (e = .returned (.bool false) ∧ Jx (pre ++ [x]) W'))) →
    J [] W →
    CallsIn Fence.wide 9 P g (#[.func (.yield l) #[] #[]] ++ lb) W fun e W' => (∃ v, e = .returned v) ∧ ((∃ xs, S xs ∧ J xs W') ∨ (∃ pre, Sp pre ∧ Jx pre W'))

/-- How a round's body may be left. -/
def postY {α : Type} (U : List Nat) (I : List α → World → Prop) (Ix : Code → List α → World → Prop) (xs : List α) (W : World) : Exit → Act → World → Prop
  | .normal, _, W' => SameAt U W W' ∧ I xs W'
  | .ret, _, W' => SameAt U W W' ∧ Ix .ret xs W'
  | .exit id, _, W' => SameAt U W W' ∧ Ix (.exit id) xs W'
  | .goto t, _, W' => SameAt U W W' ∧ Ix (.goto t) xs W'
  | .panic _, _, _ => False
  | .outgrown, _, _ => False

theorem same_put {U : List Nat} {W : World} {l : Nat} {o} (h : l ∉ U) : SameAt U W (W.putObj l o) := fun k hk => World.putObj_heap_other (fun e => h (e ▸ hk))
theorem keeps_put {W : World} {l : Nat} {o} : Keeps W (W.putObj l o) [l] := ⟨rfl, rfl, rfl, by simp, fun k _ hn => World.putObj_heap_other (by simpa using hn)⟩

/-- THE STATEMENT 'for .. := range g { .. }', outside of any round. -/
theorem range_BY {α : Type} {P : Program} {n : Nat} {g : Operand} {ps : Array Tmp} {assign body : Code} {Q : Exit → Act → World → Prop} {a : Act} {w : World}
    {gf : Nat} {lb : Array Value} (hg : a.eval g = .func (.func gf) #[] lb) (eg : ∀ args w, (callFunc gf args).run P w = .ok (.enter gf args) w)
    {encs : α → Array Value} {X : List Nat} {Fx : World → Prop} {S Sp : List α → Prop} (hseq : SeqY P gf lb encs X Fx S Sp w)
    (hX : ∀ k ∈ X, k < w.heap.size) (hps : ∀ x, (encs x).size = ps.size)
    (I : List α → World → Prop) (Ix : Code → List α → World → Prop) (hI : ∀ s A B, I s A → Keeps A B (X ++ [w.heap.size, w.heap.size + 1]) → I s B) (hIx : ∀ c s A B, Ix c s A → Keeps A B (X ++ [w.heap.size, w.heap.size + 1]) → Ix c s B) (h0 : I [] w)
    (hround : ∀ (l : Nat) (pre : List α) (x : α) (W : World), l = w.heap.size + 1 → l < W.heap.size → W.heap[w.heap.size]? = some (.deferred (some [])) → Fx W → I pre W → Sp (pre ++ [x]) →
      assign.wpIn (Fence.wide.inRound l) 9 P (Exit.then (fun a' W' => SameAt (X ++ [w.heap.size, w.heap.size + 1]) W W' ∧ ∀ W2, Turned l W' W2 → body.wpIn (Fence.wide.inRound l) 9 P (postY (X ++ [w.heap.size, w.heap.size + 1]) I Ix (pre ++ [x]) W2) a' W2) (fun _ _ _ => False))
        { tmps := (ps.zip (encs x)).foldl (fun t (p, v) => t.setIfInBounds p v) a.tmps, defers := [] } W)
    (hdone : ∀ (D : Nat) (xs : List α) (W : World), w.heap.size ≤ D → S xs → I xs W → W.heap[D]? = some (.deferred (some [])) → Q .normal { a with defers := { target := .collected D, args := #[] } :: a.defers } W)
    (hstop : ∀ (D : Nat) (c : Code) (pre : List α) (W : World), w.heap.size ≤ D → Sp pre → Ix c pre W → W.heap[D]? = some (.deferred (some [])) → c.wpIn Fence.wide n P Q { a with defers := { target := .collected D, args := #[] } :: a.defers } W) :
    (Code.rangeFunc g ps assign body).wpIn Fence.wide n P Q a w := by
  refine wpIn_rangeFunc ?_
  intro fn hfn
  obtain ⟨rec, hrec⟩ : ∃ rec : LoopState → Option Code → Loop, rec = fun st pe => { state := st, pending := pe, fn, tmps := a.tmps, params := ps, assign, body, defers := w.heap.size } := ⟨_, rfl⟩
  obtain ⟨W1, hW1⟩ : ∃ W1, (w.alloc (.deferred (some []))).alloc (.loop (rec .ready none)) = W1 := ⟨_, rfl⟩
  have hs1 : W1.heap.size = w.heap.size + 2 := by rw [← hW1]; simp
  have hB1 : Below w.heap.size w W1 := by rw [← hW1]; exact ((Below.refl _ w).alloc (Nat.le_refl _) _).alloc (by simp) _
  have hL1 : W1.heap[w.heap.size + 1]? = some (.loop (rec .ready none)) := by
    rw [← hW1]; have := World.alloc_heap_new (w.alloc (.deferred (some []))) (.loop (rec .ready none)); rwa [World.size_alloc] at this
  have hK1 : W1.heap[w.heap.size]? = some (.deferred (some [])) := by
    rw [← hW1]; exact (Below.heap_alloc _ _ _ (by simp)).trans (World.alloc_heap_new w _)
  refine ⟨w.heap.size + 1, [{ target := .collected w.heap.size, args := #[] }], W1, { target := .fn (.func gf) lb, args := #[.func (.yield (w.heap.size + 1)) #[] #[]] }, W1, gf,
    #[.func (.yield (w.heap.size + 1)) #[] #[]] ++ lb, W1, ?_, ?_, fun _ _ => trivial, ?_, fun h => by simp [Fence.wide] at h, callsIn_any (n := 9) ?_⟩
  · rw [← hW1, hrec]; exact run_enterLoop_outer _ _ _ _ _
  · simp only [resolve, hg]
    simp [go_sem]
  · simp [invoke, go_sem, eg]
  have nX : ∀ k, w.heap.size ≤ k → k ∉ X := fun k h hm => by have := hX k hm; omega
  have hU : ∀ k ∈ X, k ∈ X ++ [w.heap.size, w.heap.size + 1] := fun k hk => List.mem_append.2 (.inl hk)
  have hl' : w.heap.size + 1 ∈ X ++ [w.heap.size, w.heap.size + 1] := by simp
  have hd' : w.heap.size ∈ X ++ [w.heap.size, w.heap.size + 1] := by simp
  have stay : ∀ {A B : World} {o : Obj} {k : Nat}, A.heap[k]? = some o → w.heap.size ≤ k → Keeps A B X → B.heap[k]? = some o := fun h hk hb => (hb.block _ (Array.getElem?_eq_some_iff.1 h).1 (nX _ hk)).trans h
  refine (hseq (w.heap.size + 1)
    (fun pre W => I pre W ∧ W.heap[w.heap.size + 1]? = some (.loop (rec .ready none)) ∧ W.heap[w.heap.size]? = some (.deferred (some [])))
    (fun pre W => ∃ c, Ix c pre W ∧ W.heap[w.heap.size + 1]? = some (.loop (rec .done (some c))) ∧ W.heap[w.heap.size]? = some (.deferred (some [])))
    W1 (fun k hk => hB1.block k (hX k hk)) ?_ ?_ ?_ ⟨hI _ _ _ h0 ((Keeps.of_below hB1).mono (by simp)), hL1, hK1⟩).mono ?_
  · rintro s A B ⟨hi, hl, hk⟩ hb
    exact ⟨hI _ _ _ hi (hb.mono hU), stay hl (by omega) hb, stay hk (by omega) hb⟩
  · rintro s A B ⟨c, hi, hl, hk⟩ hb
    exact ⟨c, hIx _ _ _ _ hi (hb.mono hU), stay hl (by omega) hb, stay hk (by omega) hb⟩
  · -- one round
    rintro pre x W ⟨hi, hl, hk⟩ hfx hsp
    have hlt : w.heap.size + 1 < W.heap.size := (Array.getElem?_eq_some_iff.1 hl).1
    have hy := run_yield (P := P) (args := encs x) hl (by rw [hrec]; exact hps x)
    rw [hrec] at hy
    refine ⟨fn, _, assign, body, hy, roundIn_of_wpIn hfn (wpIn_mono (hround _ pre x W rfl hlt hk hfx hi hsp) ?_)⟩
    clear hy
    rintro e a' Wa hq
    cases e with
    | normal =>
      obtain ⟨hka, hbody⟩ := hq
      have hla := (hka _ hl').trans hl
      have hKa := (hka _ hd').trans hk
      have hlta : w.heap.size + 1 < Wa.heap.size := (Array.getElem?_eq_some_iff.1 hla).1
      refine ⟨_, run_beginRound hla (by rw [hrec]), ?_⟩
      have hT : Turned (w.heap.size + 1) Wa (Wa.putObj (w.heap.size + 1) (.loop { rec .ready none with state := .busy })) := ⟨_, _, hla, rfl⟩
      have hl2 : (Wa.putObj (w.heap.size + 1) (.loop { rec .ready none with state := .busy })).heap[w.heap.size + 1]? = some (.loop { rec .ready none with state := .busy }) := World.putObj_heap_same hlta
      have hk2 : (Wa.putObj (w.heap.size + 1) (.loop { rec .ready none with state := .busy })).heap[w.heap.size]? = some (.deferred (some [])) := (World.putObj_heap_other (by omega)).trans hKa
      have hka2 : SameAt X W (Wa.putObj (w.heap.size + 1) (.loop { rec .ready none with state := .busy })) := (hka.mono hU).trans (same_put (nX _ (by omega)))
      refine wpIn_mono (hbody _ hT) ?_
      have fin : ∀ (jump : Option Code) (W3 : World), SameAt (X ++ [w.heap.size, w.heap.size + 1]) (Wa.putObj (w.heap.size + 1) (.loop { rec .ready none with state := .busy })) W3 →
          (Instr.endRound (w.heap.size + 1) jump).run P W3 = .ok (.bool jump.isNone) (W3.putObj (w.heap.size + 1) (.loop (rec (if jump.isNone then .ready else .done) jump))) ∧
          Keeps W3 (W3.putObj (w.heap.size + 1) (.loop (rec (if jump.isNone then .ready else .done) jump))) (X ++ [w.heap.size, w.heap.size + 1]) ∧
          (W3.putObj (w.heap.size + 1) (.loop (rec (if jump.isNone then .ready else .done) jump))).heap[w.heap.size + 1]? = some (.loop (rec (if jump.isNone then .ready else .done) jump)) ∧
          (W3.putObj (w.heap.size + 1) (.loop (rec (if jump.isNone then .ready else .done) jump))).heap[w.heap.size]? = some (.deferred (some [])) ∧
          SameAt X W (W3.putObj (w.heap.size + 1) (.loop (rec (if jump.isNone then .ready else .done) jump))) := fun jump W3 hk3 => by
        have hl3 := (hk3 _ hl').trans hl2
        have hk3' := (hk3 _ hd').trans hk2
        have hr := run_endRound (P := P) jump hl3
        refine ⟨?_, keeps_put.mono (by simp), World.putObj_heap_same (Array.getElem?_eq_some_iff.1 hl3).1, (World.putObj_heap_other (by omega)).trans hk3', ?_⟩
        · rw [hrec] at hr ⊢; exact hr
        · exact (hka2.trans (hk3.mono hU)).trans (same_put (nX _ (by omega)))
      rintro e a3 W3 hp
      cases e with
      | normal =>
        obtain ⟨hk3, hi3⟩ := hp
        obtain ⟨hr, hb4, hl4, hk4, hkk⟩ := fin none W3 hk3
        exact ⟨_, _, hr, hkk, .inl ⟨rfl, hI _ _ _ hi3 hb4, hl4, hk4⟩⟩
      | ret =>
        obtain ⟨hk3, hi3⟩ := hp
        obtain ⟨hr, hb4, hl4, hk4, hkk⟩ := fin (some .ret) W3 hk3
        exact ⟨_, _, hr, hkk, .inr ⟨rfl, .ret, hIx _ _ _ _ hi3 hb4, hl4, hk4⟩⟩
      | exit id =>
        obtain ⟨hk3, hi3⟩ := hp
        obtain ⟨hr, hb4, hl4, hk4, hkk⟩ := fin (some (.exit id)) W3 hk3
        exact ⟨_, _, hr, hkk, .inr ⟨rfl, .exit id, hIx _ _ _ _ hi3 hb4, hl4, hk4⟩⟩
      | goto t =>
        obtain ⟨hk3, hi3⟩ := hp
        obtain ⟨hr, hb4, hl4, hk4, hkk⟩ := fin (some (.goto t)) W3 hk3
        exact ⟨_, _, hr, hkk, .inr ⟨rfl, .goto t, hIx _ _ _ _ hi3 hb4, hl4, hk4⟩⟩
      | panic ch => exact hp.elim
      | outgrown => exact hp.elim
    | exit id => exact hq.elim
    | goto t => exact hq.elim
    | ret => exact hq.elim
    | panic ch => exact hq.elim
    | outgrown => exact hq.elim
  · -- behind the iterator
    rintro e W2 ⟨⟨v, rfl⟩, (⟨xs, hS, hi, hl, hk⟩ | ⟨pre, hSp, c, hi, hl, hk⟩)⟩
    · exact ⟨none, _, by have := run_endLoop (P := P) hl (by rw [hrec]; simp); rw [hrec] at this; exact this, hdone _ xs _ (Nat.le_refl _) hS (hI _ _ _ hi (keeps_put.mono (by simp))) ((World.putObj_heap_other (by omega)).trans hk)⟩
    · exact ⟨some c, _, by have := run_endLoop (P := P) hl (by rw [hrec]; simp); rw [hrec] at this; exact this, hstop _ c pre _ (Nat.le_refl _) hSp (hIx _ _ _ _ hi (keeps_put.mono (by simp))) ((World.putObj_heap_other (by omega)).trans hk)⟩

/-- THE STATEMENT in the plain walk. -/
theorem range_PY0 {α : Type} {P : Program} {g : Operand} {ps : Array Tmp} {assign body : Code} {Q : Exit → Act → World → Prop} {a : Act} {w : World}
    {gf : Nat} {lb : Array Value} (hg : a.eval g = .func (.func gf) #[] lb) (eg : ∀ args w, (callFunc gf args).run P w = .ok (.enter gf args) w)
    {encs : α → Array Value} {X : List Nat} {Fx : World → Prop} {S Sp : List α → Prop} (hseq : SeqY P gf lb encs X Fx S Sp w)
    (hX : ∀ k ∈ X, k < w.heap.size) (hps : ∀ x, (encs x).size = ps.size)
    (I : List α → World → Prop) (Ix : Code → List α → World → Prop) (hI : ∀ s A B, I s A → Keeps A B (X ++ [w.heap.size, w.heap.size + 1]) → I s B) (hIx : ∀ c s A B, Ix c s A → Keeps A B (X ++ [w.heap.size, w.heap.size + 1]) → Ix c s B) (h0 : I [] w)
    (hround : ∀ (l : Nat) (pre : List α) (x : α) (W : World), l = w.heap.size + 1 → l < W.heap.size → W.heap[w.heap.size]? = some (.deferred (some [])) → Fx W → I pre W → Sp (pre ++ [x]) →
      assign.wpIn (Fence.wide.inRound l) 9 P (Exit.then (fun a' W' => SameAt (X ++ [w.heap.size, w.heap.size + 1]) W W' ∧ ∀ W2, Turned l W' W2 → body.wpIn (Fence.wide.inRound l) 9 P (postY (X ++ [w.heap.size, w.heap.size + 1]) I Ix (pre ++ [x]) W2) a' W2) (fun _ _ _ => False))
        { tmps := (ps.zip (encs x)).foldl (fun t (p, v) => t.setIfInBounds p v) a.tmps, defers := [] } W)
    (hdone : ∀ (D : Nat) (xs : List α) (W : World), w.heap.size ≤ D → S xs → I xs W → W.heap[D]? = some (.deferred (some [])) → Q .normal { a with defers := { target := .collected D, args := #[] } :: a.defers } W)
    (hstop : ∀ (D : Nat) (c : Code) (pre : List α) (W : World), w.heap.size ≤ D → Sp pre → Ix c pre W → W.heap[D]? = some (.deferred (some [])) → c.wp P Q { a with defers := { target := .collected D, args := #[] } :: a.defers } W) :
    (Code.rangeFunc g ps assign body).wp P Q a w :=
  (wpIn_wide (n := 9)).1 (range_BY hg eg hseq hX hps I Ix hI hIx h0 hround hdone (fun D c pre W h1 h2 h3 h4 => wpIn_wide.2 (hstop D c pre W h1 h2 h3 h4)))

/-- THE STATEMENT in the plain walk, where a round may be left by one break alone: both ways out come to one fact F, from which the rest goes on. -/
theorem range_PY {α : Type} {P : Program} {g : Operand} {ps : Array Tmp} {assign body : Code} {Q : Exit → Act → World → Prop} {a : Act} {w : World}
    {gf : Nat} {lb : Array Value} (hg : a.eval g = .func (.func gf) #[] lb) (eg : ∀ args w, (callFunc gf args).run P w = .ok (.enter gf args) w)
    {encs : α → Array Value} {X : List Nat} {Fx : World → Prop} {S Sp : List α → Prop} (hseq : SeqY P gf lb encs X Fx S Sp w)
    (hX : ∀ k ∈ X, k < w.heap.size) (hps : ∀ x, (encs x).size = ps.size) (id : Nat)
    (I Ix : List α → World → Prop) (F : World → Prop) (hI : ∀ s A B, I s A → Keeps A B (X ++ [w.heap.size, w.heap.size + 1]) → I s B) (hIx : ∀ s A B, Ix s A → Keeps A B (X ++ [w.heap.size, w.heap.size + 1]) → Ix s B) (h0 : I [] w)
    (hround : ∀ (l : Nat) (pre : List α) (x : α) (W : World), l = w.heap.size + 1 → l < W.heap.size → W.heap[w.heap.size]? = some (.deferred (some [])) → Fx W → I pre W → Sp (pre ++ [x]) →
      assign.wpIn (Fence.wide.inRound l) 9 P (Exit.then (fun a' W' => SameAt (X ++ [w.heap.size, w.heap.size + 1]) W W' ∧ ∀ W2, Turned l W' W2 → body.wpIn (Fence.wide.inRound l) 9 P (postY (X ++ [w.heap.size, w.heap.size + 1]) I (fun c s A => c = .exit id ∧ Ix s A) (pre ++ [x]) W2) a' W2) (fun _ _ _ => False))
        { tmps := (ps.zip (encs x)).foldl (fun t (p, v) => t.setIfInBounds p v) a.tmps, defers := [] } W)
    (hdone : ∀ (xs : List α) (W : World), S xs → I xs W → F W) (hstop : ∀ (pre : List α) (W : World), Sp pre → Ix pre W → F W)
    (hex : ∀ a' W, Q .normal a' W → Q (.exit id) a' W)
    (hrest : ∀ (D : Nat) (W : World), w.heap.size ≤ D → W.heap[D]? = some (.deferred (some [])) → F W → Q .normal { a with defers := { target := .collected D, args := #[] } :: a.defers } W) :
    (Code.rangeFunc g ps assign body).wp P Q a w :=
  range_PY0 hg eg hseq hX hps I (fun c s A => c = .exit id ∧ Ix s A) hI (fun c s A B h hb => ⟨h.1, hIx s A B h.2 hb⟩) h0 hround
    (fun D xs W hD hS hi hK => hrest D W hD hK (hdone xs W hS hi))
    (fun D c pre W hD hS ⟨hc, hi⟩ hK => by subst hc; exact wp_exit (hex _ _ (hrest D W hD hK (hstop pre W hS hi))))
end

section
set_option linter.unusedVariables false
set_option linter.unusedSimpArgs false

/-- The bytes of a varint. -/
def varI (n : Nat) : List Int := if h : n < 128 then [(n : Int)] else ((n % 128 + 128 : Nat) : Int) :: varI (n / 128)
termination_by n
decreasing_by omega
theorem varI_small {n : Nat} (h : n < 128) : varI n = [(n : Int)] := by rw [varI, dif_pos h]
theorem varI_step {n : Nat} (h : 128 ≤ n) : varI n = ((n % 128 + 128 : Nat) : Int) :: varI (n / 128) := by rw [varI, dif_neg (by omega)]
theorem varI_pos (n : Nat) : 0 < (varI n).length := by
  rw [varI]; split <;> simp
theorem varI_len (d : Nat) : ∀ n : Nat, n < 128 ^ (d + 1) → (varI n).length ≤ d + 1 := by
  induction d with
  | zero => intro n h; rw [varI_small (by simpa using h)]; simp
  | succ d ih =>
    intro n h
    by_cases hn : n < 128
    · rw [varI_small hn]; simp
    · rw [varI_step (by omega), List.length_cons]
      have := ih (n / 128) (by rw [Nat.pow_succ] at h; omega)
      omega
theorem varI_byte {n : Nat} {x : Int} (h : x ∈ varI n) : 0 ≤ x ∧ x ≤ 255 := by
  induction n using Nat.strongRecOn with
  | _ n ih =>
    by_cases hn : n < 128
    · rw [varI_small hn] at h
      rw [List.mem_singleton.1 h]; omega
    · rw [varI_step (by omega)] at h
      rcases List.mem_cons.1 h with h | h
      · rw [h]; omega
      · exact ih _ (by omega) h
end

section
set_option linter.unusedVariables false
set_option linter.unusedSimpArgs false
open Go.RowKit

def ints (h : List Int) : Array Value := (h.map (Value.int .i64)).toArray

/-- All entries are counts. -/
def Counts (h : List Int) : Prop := h.length = 256 ∧ ∀ x ∈ h, 0 ≤ x ∧ x ≤ 2147483648
theorem Counts.zero : Counts (List.replicate 256 0) := ⟨List.length_replicate, fun x hx => by have := (List.mem_replicate.1 hx).2; omega⟩
theorem Counts.get {h : List Int} (hc : Counts h) {i : Nat} (hi : i < 256) : ∃ x, h[i]? = some x ∧ 0 ≤ x ∧ x ≤ 2147483648 := by
  have hlt : i < h.length := by rw [hc.1]; exact hi
  exact ⟨_, List.getElem?_eq_getElem hlt, hc.2 _ (List.getElem_mem hlt)⟩
theorem ints_get {h : List Int} {i : Nat} {x : Int} (hx : h[i]? = some x) : (ints h)[i]? = some (.int .i64 x) := by simp [ints, hx]
theorem ints_set (h : List Int) (i : Nat) (x : Int) : (ints h).setIfInBounds i (.int .i64 x) = ints (h.set i x) := by simp [ints, List.map_set]
/-- A slice of slices of numbers reads as a list of lists. -/
structure RdL (k : IntKind) (w : World) (v : Value) (ls : List (List Int)) : Prop where
  form : ∃ a n cp, v = .slice a n cp ∧ n = ls.length ∧ (0 < n → n ≤ cp ∧ ∃ b o, a = some ⟨b, o, none⟩ ∧ b < w.heap.size ∧ ∀ i l, ls[i]? = some l → ∃ vi, w.cell? ⟨b, o + i, none⟩ = some vi ∧ RdI k w vi l)

section
variable {k : IntKind} {w w' : World} {v : Value} {ls : List (List Int)} {a : Option Addr} {n cp : Nat}
theorem RdL.keeps (h : RdL k w v ls) (kk : Keeps w w' []) : RdL k w' v ls := by
  obtain ⟨a, n, cp, rfl, hn, hc⟩ := h.form
  refine ⟨a, n, cp, rfl, hn, fun hp => ?_⟩
  obtain ⟨h1, b, o, h2, h3, h4⟩ := hc hp
  refine ⟨h1, b, o, h2, Nat.lt_of_lt_of_le h3 kk.size, fun i l hl => ?_⟩
  obtain ⟨vi, h5, h6⟩ := h4 i l hl
  exact ⟨vi, (kk.cell (p := ⟨b, o + i, none⟩) h3 (by simp)).trans h5, h6.keeps kk⟩
theorem RdL.at (h : RdL k w (.slice a n cp) ls) {i : Nat} {l : List Int} (hx : ls[i]? = some l) : ∃ b o vi, a = some ⟨b, o, none⟩ ∧ b < w.heap.size ∧ w.cell? ⟨b, o + i, none⟩ = some vi ∧ RdI k w vi l ∧ n ≤ cp := by
  obtain ⟨a', n', cp', he, hl, hc⟩ := h.form
  obtain ⟨h1, h2, h3⟩ := Value.slice.inj he
  subst h1 h2 h3
  have hlt := (List.getElem?_eq_some_iff.1 hx).1
  obtain ⟨h0, b, o, h2, h3, h4⟩ := hc (by omega)
  obtain ⟨vi, h5, h6⟩ := h4 i l hx
  exact ⟨b, o, vi, h2, h3, h5, h6, h0⟩
theorem RdL.len (h : RdL k w (.slice a n cp) ls) : n = ls.length := by
  obtain ⟨a', n', cp', he, hl, -⟩ := h.form
  obtain ⟨h1, h2, h3⟩ := Value.slice.inj he
  rw [h2, hl]
end
end

section
set_option linter.unusedVariables false
set_option linter.unusedSimpArgs false
set_option linter.unusedSectionVars false
open Go.RowKit

abbrev encB (x : Int) : Array Value := #[.int .u8 x]
def cellN (b : Nat) (w : World) : Nat := match w.cell? ⟨b, 0, none⟩ with | some (.int _ q) => q.toNat | _ => 0

theorem opIn_val {n : Nat} {P : Program} {o : Oper} {a : Act} {w w' : World} {K : Act → World → Prop} {Q : Exit → Act → World → Prop} {v : Value} (h : (execOp a.eval o).run P w = .ok (.value v) w') (hK : K (a.put o.dst v) w') : o.wpIn Fence.wide n P a w K Q := by
  refine ⟨fun _ _ => trivial, ?_⟩
  show Oper.uponIn Fence.wide n P o a K Q ((execOp a.eval o).run P w)
  rw [h]
  exact hK
theorem opIn_skip {n : Nat} {P : Program} {o : Oper} {a : Act} {w w' : World} {K : Act → World → Prop} {Q : Exit → Act → World → Prop} (h : (execOp a.eval o).run P w = .ok .skip w') (hK : K (a.put o.dst undef) w') : o.wpIn Fence.wide n P a w K Q := by
  refine ⟨fun _ _ => trivial, ?_⟩
  show Oper.uponIn Fence.wide n P o a K Q ((execOp a.eval o).run P w)
  rw [h]
  exact hK
theorem semAt_wide (ρ : Operand → Value) (o : Oper) : Oper.semAt Fence.wide.round ρ o = execOp ρ o := rfl
attribute [local go_sem] Oper.semAt_some semAt_wide Oper.about

theorem or128_all : ∀ r : Fin 256, bits BinOp.or IntKind.u8 ((r.val : Nat) : Int) 128 = ((r.val % 128 + 128 : Nat) : Int) := by decide +kernel
theorem or128 (q : Nat) : bits BinOp.or IntKind.u8 ((q : Int) % 256) 128 = ((q % 128 + 128 : Nat) : Int) := by
  have h := or128_all ⟨q % 256, Nat.mod_lt _ (by decide)⟩
  simp only at h
  rw [show ((q % 256 : Nat) : Int) = (q : Int) % 256 by omega] at h
  rw [h]
  congr 2
  omega
theorem cellN_eq {b : Nat} {w : World} {k : IntKind} {q : Nat} {T : TypeId} (h : Blk w b #[.int k (q : Int)] T) : cellN b w = q := by
  obtain ⟨c, -⟩ := h.one
  simp [cellN, c]

set_option maxRecDepth 100000 in
set_option maxHeartbeats 2000000 in
theorem parts1_seq (bn n : Nat) (w : World) (hn : n < 18446744073709551616) (hbn : Blk w bn #[.int .u64 (n : Int)] 64) :
    SeqY Tryz.prog 176 #[.pointer (some ⟨bn, 0, none⟩)] encB [bn] (fun W => ∃ q : Nat, Blk W bn #[.int .u64 (q : Int)] 64)
      (fun ys => ys = varI n) (fun pre => pre <+: varI n) w := by
  intro lo J Jx W hW hJ hJx hY h0
  have hbn' : Blk W bn #[.int .u64 (n : Int)] 64 := (hW bn (by simp)).trans hbn
  have HY := Lib.hid hY
  have HJ := Lib.hid hJ
  clear hbn hY hJ hJx
  refine callsIn_of_wp Tryz.func176 rfl trivial ?_ rfl
  simp only [Tryz.ntmps176, List.size_toArray, List.length_cons, List.length_nil, Nat.reduceAdd, Nat.reduceSub, Array.replicate_succ, Array.replicate_zero, List.push_toArray, List.append_toArray, List.nil_append, List.cons_append]
  gi_wp2
  gi_loopw [] (fun wr => ∃ (pre : List Int) (q : Nat), q < 18446744073709551616 ∧ Hid (varI n = pre ++ varI q) ∧ Blk wr bn #[.int .u64 (q : Int)] 64 ∧ Hid (J pre wr))
    (fun wr => cellN bn wr)
  case atStart => exact ⟨[], n, hn, rfl, hbn', h0⟩
  case round =>
    obtain ⟨pre, q, hq, hp, hbq, hJs⟩ := hrel
    obtain ⟨e3, -⟩ := hbq.one
    have hbf := hbq.frozen 0
    by_cases h128 : 128 ≤ q
    · have h128' : (128 : Int) ≤ (q : Int) := by omega
      have HOR := Lib.hid (or128 q)
      have hv := Lib.hid (varI_step h128)
      have hyy := HY.out pre ((q % 128 + 128 : Nat) : Int) wr hJs.out ⟨_, hbq⟩ ⟨varI (q / 128), by rw [hp.out, hv.out]; simp⟩
      obtain ⟨fn, tmps, assign, body, hy, hR⟩ := hyy
      dsimp only [encB] at hy
      have HQ := Lib.hid (cellN_eq hbq)
      obtain ⟨x, hx⟩ : ∃ x : Int, x = ((q % 128 + 128 : Nat) : Int) := ⟨_, rfl⟩
      rw [← hx] at HOR hv hy hR
      have HBQ := Lib.hid hbq
      clear hx hbq
      have hor := HOR.out
      gi_wp2
      refine (round_any hR).mono ?_
      rintro e W3 ⟨hk3, (⟨rfl, hJ3⟩ | ⟨rfl, hJx3⟩)⟩
      · have hb3 : Blk W3 bn #[.int .u64 (q : Int)] 64 := (hk3 bn (by simp)).trans HBQ.out
        obtain ⟨c3, -⟩ := hb3.one
        have f3 := hb3.frozen 0
        have hlt3 := hb3.lt
        have eq7 : (q : Int) / 128 = ((q / 128 : Nat) : Int) := by omega
        have NB : Hid (Blk (W3.setCell ⟨bn, 0, none⟩ (.int .u64 ((q / 128 : Nat) : Int))) bn #[.int .u64 ((q / 128 : Nat) : Int)] 64) := by
          have := hb3.set 0 (.int .u64 ((q / 128 : Nat) : Int))
          exact this
        have kk3 : Keeps W3 (W3.setCell ⟨bn, 0, none⟩ (.int .u64 ((q / 128 : Nat) : Int))) [bn] := (Keeps.refl W3 [bn]).setCell (.inr (by simp)) _
        have NJ : Hid (J (pre ++ [x]) (W3.setCell ⟨bn, 0, none⟩ (.int .u64 ((q / 128 : Nat) : Int)))) := HJ.out _ _ _ hJ3 kk3
        have NP : Hid (varI n = (pre ++ [x]) ++ varI (q / 128)) := by show _ = _; rw [hp.out, hv.out]; simp
        have NQ := Lib.hid (cellN_eq NB.out)
        clear hJ3 hk3 kk3
        gi_wp2
        refine opIn_val (v := .int .u64 ((q / 128 : Nat) : Int)) (w' := W3) (by simp [execOp, go_sem]) ?_
        simp only [Act.put, List.setIfInBounds_toArray, List.set_cons_succ, List.set_cons_zero]
        gi_wp2
        refine opIn_skip (w' := W3.setCell ⟨bn, 0, none⟩ (.int .u64 ((q / 128 : Nat) : Int))) (by simp [execOp, go_sem, Tryz.isAgg64, c3, f3]) ?_
        gi_wp2
        simp only [Act.put]
        go_roundw
        case rel => exact ⟨pre ++ [x], q / 128, by omega, NP, NB.out, NJ⟩
        case measure => rw [HQ.out, NQ.out]; omega
      · gi_wp2
        refine bodyPost_ret (v := .tuple #[]) (by simp [results, Tryz.results176]) rfl ⟨⟨_, rfl⟩, .inr ⟨_, ?_, hJx3⟩⟩
        exact ⟨varI (q / 128), by rw [hp.out, hv.out]; simp⟩
    · have h128' : decide ((128 : Int) ≤ (q : Int)) = false := decide_eq_false (by omega)
      have hv := Lib.hid (varI_small (n := q) (by omega))
      have hyy := HY.out pre (q : Int) wr hJs.out ⟨_, hbq⟩ ⟨[], by rw [hp.out, hv.out]; simp⟩
      obtain ⟨fn, tmps, assign, body, hy, hR⟩ := hyy
      dsimp only [encB] at hy
      gi_wp2
      refine (round_any hR).mono ?_
      rintro e W3 ⟨hk3, (⟨rfl, hJ3⟩ | ⟨rfl, hJx3⟩)⟩
      · gi_wp2
        go_end0
        exact ⟨⟨_, rfl⟩, .inl ⟨_, by rw [hp.out, hv.out], hJ3⟩⟩
      · gi_wp2
        go_end0
        exact ⟨⟨_, rfl⟩, .inr ⟨_, ⟨[], by rw [hp.out, hv.out]; simp⟩, hJx3⟩⟩
end

section
set_option linter.unusedVariables false
set_option linter.unusedSimpArgs false
open Go.RowKit

/-- An empty slice literal. -/
theorem run_build0 {P : Program} (w : World) (t e : TypeId) (ie : TypeInfo) (z : Value)
    (hu : P.underlying t = some (.slice e)) (hie : P.info? e = some ie) (hz : ie.zero = some z) :
    (Instr.buildSlice t 0 #[]).run P w = .ok (.slice (some ⟨w.heap.size, 0, none⟩) 0 0) (w.alloc (.cells #[] e)) := by
  have h0 : Array.range 0 = #[] := rfl
  simp [Instr.buildSlice, run_underlying hu, sizeOf, typeInfo, zeroValue, hie, hz, newRow, Instr.fill, h0]

theorem wpList_build0 {P : Program} {ops : Array Oper} {rest : List Oper} {o : Oper} {a : Act} {w : World} {Q : Exit → Act → World → Prop} (hg : o.guard = none) (t e : TypeId) (ho : o.op = .buildSlice t 0 #[])
    (ie : TypeInfo) (z : Value) (size : Nat)
    (hu : P.underlying t = some (.slice e)) (hie : P.info? e = some ie) (hz : ie.zero = some z)
    (h : ∀ v, (w.alloc (.cells #[] e)).ownsRow w.heap.size e size v 0 [] → v.ownBlock = some w.heap.size → v ≠ .slice none 0 0 → wpList P ops Q rest (a.put o.dst v) (w.alloc (.cells #[] e))) : wpList P ops Q (o :: rest) a w := by
  refine wpList_plain hg fun K hK => ?_
  unfold Oper.wp execOp
  simp only [ho, Sem.run_bind, Array.map_empty, run_build0 w t e ie z hu hie hz, Result.andThen_ok]
  exact hK _ _ (h _ ⟨by simp, .inr ⟨_, 0, #[], rfl, Nat.le_refl _, heap_alloc_new w _, Nat.le_refl _, by decide, by simp, by simp⟩⟩ rfl (by simp))

theorem wpList_move {P : Program} {ops : Array Oper} {rest : List Oper} {o : Oper} {a : Act} {w : World} {Q : Exit → Act → World → Prop} (hg : o.guard = none) (x : Operand) (ho : o.op = .move x)
    (h : wpList P ops Q rest (a.put o.dst (a.eval x)) w) : wpList P ops Q (o :: rest) a w := by
  refine wpList_plain hg fun K hK => ?_
  unfold Oper.wp execOp
  simp only [ho]
  exact hK _ _ h

theorem grown_refl (w : World) (row : Option Nat) : w.grownBy w row := ⟨rfl, rfl, rfl, Nat.le_refl _, fun _ _ _ => rfl⟩

/-- append of a slice of numbers, nil or not, to a slice of the call's own. -/
theorem wpList_appendI {P : Program} {w : World} {ops : Array Oper} {rest : List Oper} {o : Oper} {a : Act} {Q : Exit → Act → World → Prop} (hgd : o.guard = none) (s x : Operand) (t : TypeId)
    (ho : o.op = .call { callee := .builtin .append, args := #[s, x], argTypes := #[t, t] })
    (base : Nat) (e : TypeId) (i : TypeInfo) (z : Value) (bytes : Nat) (ht : P.underlying t = some (.slice e)) (hi : P.info? e = some i) (hz : i.zero = some z)
    (hsize : i.size = 1) (hby : i.bytes = bytes) (hzs : z.cells.size = 1)
    (v : Value) (n : Nat) (xs : List Value) (hs : a.eval s = v) (hown : w.ownsRow base e 1 v n xs) (vx : Value) (hx : a.eval x = vx) (k : IntKind) (l : List Int) (hv : RdI k w vx l)
    (h63 : n + l.length ≤ maxLen) (hbytes : (n + l.length) * bytes ≤ 140737488355328) (hbase : base ≤ w.heap.size)
    (h : ∀ v' w', w'.ownsRow base e 1 v' (n + l.length) (xs ++ l.map (Value.int k)) → w.grownBy w' v.ownBlock → (v ≠ .slice none 0 0 → v' ≠ .slice none 0 0) → wpList P ops Q rest (a.put o.dst v') w') : wpList P ops Q (o :: rest) a w := by
  obtain ⟨A0, m, cp, rfl, hm, -⟩ := hv.form
  cases A0 with
  | none =>
    obtain ⟨rfl, rfl, rfl⟩ := hv.nilcap
    exact wpList_append_own_none hgd s x t ho base e i 1 ht hi v n xs hs hown hx (h v w (by simpa using hown) (grown_refl _ _) id)
  | some ad =>
    subst hm
    exact wpList_append_own w hgd s x t ho base e i z 1 bytes ht hi hz hsize hby hzs (by decide) v n xs hs hown ad l.length cp (l.map (Value.int k)) hx (by simp) hv.news (nums_one k l) h63 hbytes hbase
      (fun v' w' h1 h2 h3 => h v' w' h1 h2 (fun hne e => hne (h3.1 e).1))

/-- The copy: a literal without elements, the slice, append. -/
theorem wpList_copyI {P : Program} {w : World} {ops : Array Oper} {rest : List Oper} {o1 o2 o3 : Oper} {a : Act} {Q : Exit → Act → World → Prop} (g1 : o1.guard = none) (g2 : o2.guard = none) (g3 : o3.guard = none) (t e : TypeId) (x : Operand) (d1 d2 : Tmp)
    (ho1 : o1.op = .buildSlice t 0 #[]) (ho2 : o2.op = .move x) (ho3 : o3.op = .call { callee := .builtin .append, args := #[.tmp d1, .tmp d2], argTypes := #[t, t] })
    (i : TypeInfo) (z : Value) (bytes : Nat) (ht : P.underlying t = some (.slice e)) (hi : P.info? e = some i) (hz : i.zero = some z) (hsize : i.size = 1) (hby : i.bytes = bytes) (hzs : z.cells.size = 1)
    (vx : Value) (hx : ∀ v0, (a.put o1.dst v0).eval x = vx) (e1 : ∀ v0, ((a.put o1.dst v0).put o2.dst vx).eval (.tmp d1) = v0) (e2 : ∀ v0, ((a.put o1.dst v0).put o2.dst vx).eval (.tmp d2) = vx)
    (k : IntKind) (l : List Int) (hv : RdI k w vx l) (h63 : l.length ≤ maxLen) (hbytes : l.length * bytes ≤ 140737488355328)
    (h : ∀ v0 v' w', w'.ownsRow w.heap.size e 1 v' l.length (l.map (Value.int k)) → Keeps w w' [] → v' ≠ .slice none 0 0 → wpList P ops Q rest (((a.put o1.dst v0).put o2.dst vx).put o3.dst v') w') : wpList P ops Q (o1 :: o2 :: o3 :: rest) a w := by
  refine wpList_build0 g1 t e ho1 i z 1 ht hi hz fun v0 hown hb hne => ?_
  refine wpList_move g2 x ho2 ?_
  rw [hx v0]
  refine wpList_appendI g3 _ _ t ho3 w.heap.size e i z bytes ht hi hz hsize hby hzs v0 0 [] (e1 v0) hown vx (e2 v0) k l (hv.keeps ((Keeps.refl w []).alloc _)) (by simpa using h63) (by simpa using hbytes) (by simp) ?_
  intro v' w' h1 h2 h3
  refine h v0 v' w' (by simpa using h1) ?_ (h3 hne)
  rw [hb] at h2
  exact ((Keeps.refl w []).alloc _).trans (Keeps.of_grown (S := [w.heap.size]) h2 (fun j hj => by cases hj; simp)) (fun j hj hlt => by have := List.mem_singleton.1 hj; omega)
end

section
set_option linter.unusedVariables false
set_option linter.unusedSimpArgs false
set_option linter.unusedSectionVars false
open Go.RowKit Go.Shelf

attribute [local go_sem] Oper.semAt_some

theorem Tryz.infoByte : (Tryz.prog.info? 5).map (fun i => (i.zero, i.size, i.bytes)) = some (some (.int .u8 0), 1, 1) := by kernel_rfl

/-- A row of bytes of the call's own. -/
abbrev OwnB (w : World) (base : Nat) (v : Value) (l : List Int) : Prop := w.ownsRow base 5 1 v l.length (l.map (.int .u8))

theorem own_ne {w : World} {base : Nat} {v : Value} {l : List Int} (h : OwnB w base v l) {b : Nat} {o : Obj} (hb : w.heap[b]? = some o) (ho : ∀ cs, o ≠ .cells cs 5 (0, 0)) : v.ownBlock ≠ some b := by
  rcases h.2 with ⟨rfl, -⟩ | ⟨g, cap, cur, rfl, -, hg, -⟩
  · simp [Value.ownBlock]
  · intro e
    simp [Value.ownBlock] at e
    subst e
    rw [hg] at hb
    exact ho _ (Option.some.inj hb).symm

theorem own_moved {w w' : World} {base : Nat} {v : Value} {l : List Int} (h : OwnB w base v l) (hg : ∀ g, v.ownBlock = some g → w'.heap[g]? = w.heap[g]?) : OwnB w' base v l := by
  refine ⟨h.1, ?_⟩
  rcases h.2 with ⟨rfl, h0⟩ | ⟨g, cap, cur, rfl, h1, h2, h3⟩
  · exact .inl ⟨rfl, h0⟩
  · exact .inr ⟨g, cap, cur, rfl, h1, (hg g rfl).trans h2, h3⟩

set_option maxRecDepth 100000 in
set_option maxHeartbeats 1000000 in
theorem cloneb_any (v : Value) (l : List Int) (w : World) (hv : RdI .u8 w v l) (hl : l.length ≤ 1000000) :
    Calls Tryz.prog 48 #[v] w fun e w' => ∃ v', e = .returned v' ∧ OwnB w' w.heap.size v' l ∧ Keeps w w' [] := by
  obtain ⟨i0, hi, hz0, hz1, hz2⟩ := info_parts Tryz.infoByte
  obtain ⟨ad, n, c, rfl, -, -⟩ := hv.form
  have HV := Lib.hid hv
  have heq : ∀ w : World, (binOp .eql 36 (.slice ad n c) (.slice none 0 0)).run Tryz.prog w = .ok (.bool ad.isNone) w := fun w => Lib.run_eql_slice_nil w _ _ _ _ _ _ _ Tryz.underlying36
  cases ad with
  | none =>
    obtain ⟨rfl, rfl, rfl⟩ := hv.nilcap
    simp only [Option.isNone_none] at heq
    clear hv
    go_enter Tryz.func48, Tryz.ntmps48
    go_wp2_with fail
    go_ret
    exact ⟨_, rfl, World.ownsRow_nil _ _ _ _, Keeps.refl _ _⟩
  | some ad =>
    simp only [Option.isNone_some] at heq
    clear hv
    go_enter Tryz.func48, Tryz.ntmps48
    go_wp2_with (refine wpList_copyI rfl rfl rfl 36 5 _ _ _ rfl rfl rfl i0 (.int .u8 0) 1 Tryz.underlying36 hi hz0 hz1 hz2 rfl (.slice (some ad) n c) (fun _ => rfl) (fun _ => rfl) (fun _ => rfl) .u8 l HV.out (by unfold maxLen; omega) (by omega) ?_; intro v0 v1 w1 own1 k1 ne1; obtain ⟨a1, c1, rfl⟩ := own_form own1)
    go_ret
    exact ⟨_, rfl, own1, k1⟩
end

section
set_option linter.unusedVariables false
set_option linter.unusedSimpArgs false
open Go.RowKit

/-- A contract from a body that holds ranges over functions, the plain walk. -/
theorem calls_of_marks {P : Program} {f : FuncId} {fn : Func} {c : Code} {args : Array Value} {w : World} {R : Ending → World → Prop} (hf : P.funcs[f]? = some fn) (hb : fn.body = some c)
    (h : c.wp P (bodyPostM Fence.wide 9 P fn R) { tmps := args ++ Array.replicate (fn.ntmps - args.size) undef, defers := [] } w) : Calls P f args w R :=
  callsIn_wide.1 (callsIn_of_wp_marks hf hb trivial (wpIn_wide.2 h) rfl)

theorem res_cell {fn : Func} {p : Tmp} {T : TypeId} (h : fn.results = #[.cell p T]) {tmps : Array Value} {P : Program} {w : World} {a : Addr} {v : Value} (ht : tmps.getD p undef = .pointer (some a)) (hl : (loadVar T a).run P w = .ok v w) :
    (results fn tmps).run P w = .ok v w := by
  simp only [results, h]
  have ht' : tmps[p]?.getD undef = .pointer (some a) := by simpa using ht
  simp [Sem.run_bind, Result.andThen, ht', asAddr, hl]
end

section
set_option linter.unusedVariables false
set_option linter.unusedSimpArgs false
set_option linter.unusedSectionVars false
open Go.RowKit Go.Shelf

attribute [local go_sem] Oper.semAt_some

set_option maxRecDepth 100000 in
theorem parts_any (n : Nat) (w : World) (hn : n < 18446744073709551616) :
    Calls Tryz.prog 155 #[.int .u64 (n : Int)] w fun e w' => e = .returned (.func (.func 176) #[] #[.pointer (some ⟨w.heap.size, 0, none⟩)]) ∧ w' = w.alloc (.cells #[.int .u64 (n : Int)] 64) := by
  go_enter Tryz.func155, Tryz.ntmps155
  go_wp2_with fail
  go_ret
  exact ⟨rfl, rfl⟩

/-- How PutVarint ends. -/
def PutEnd (w : World) (b : List Int) (n : Nat) (e : Ending) (w' : World) : Prop :=
  if 4611686018427387903 < n then e = .returned (.tuple #[.slice none 0 0, .int .i64 2]) ∧ w' = w
  else ∃ v, e = .returned (.tuple #[v, .int .i64 0]) ∧ OwnB w' w.heap.size v (b ++ varI n) ∧ Keeps w w' []

set_option maxRecDepth 100000 in
set_option maxHeartbeats 4000000 in
theorem putVarint_any (v : Value) (b : List Int) (n : Nat) (w : World) (hv : RdI .u8 w v b) (hl : b.length ≤ 500000) (hn : n < 18446744073709551616) :
    Calls Tryz.prog 118 #[v, .int .u64 (n : Int)] w (PutEnd w b n) := by
  obtain ⟨i0, hi, hz0, hz1, hz2⟩ := info_parts Tryz.infoByte
  have HCL := Lib.hid (cloneb_any v b w hv (by omega))
  obtain ⟨ad, m, c, rfl, -, -⟩ := hv.form
  clear hv
  by_cases hbig : 4611686018427387903 < n
  · have h1 : (4611686018427387903 : Int) < (n : Int) := by omega
    have hfin : ∀ e w', PutEnd w b n e w' ↔ (e = .returned (.tuple #[.slice none 0 0, .int .i64 2]) ∧ w' = w) := fun e w' => by unfold PutEnd; rw [if_pos hbig]
    go_enter Tryz.func118, Tryz.ntmps118
    go_wp2_with fail
    refine bodyPost_ret (v := .tuple #[.slice none 0 0, .int .i64 2]) (by simp [results, Tryz.results118]) rfl ((hfin _ _).2 ⟨rfl, rfl⟩)
  · have h1 : decide ((4611686018427387903 : Int) < (n : Int)) = false := decide_eq_false (by omega)
    have hlen := varI_len 9 n (by omega)
    have hfin : ∀ e w', PutEnd w b n e w' ↔ (∃ v, e = .returned (.tuple #[v, .int .i64 0]) ∧ OwnB w' w.heap.size v (b ++ varI n) ∧ Keeps w w' []) := fun e w' => by unfold PutEnd; rw [if_neg hbig]
    have HF := Lib.hid hfin
    have HL := Lib.hid hlen
    have PA := Lib.hid (fun w1 => parts_any n w1 hn)
    clear hfin hlen
    refine calls_of_marks Tryz.func118 rfl ?_
    simp only [Tryz.ntmps118, List.size_toArray, List.length_cons, List.length_nil, Nat.reduceAdd, Nat.reduceSub, Array.replicate_succ, Array.replicate_zero, List.push_toArray, List.append_toArray, List.nil_append, List.cons_append]
    go_wp2_with (first | (go_at_call 48; refine HCL.out.mono ?_; rintro e w1 ⟨v1, rfl, own1, k1⟩; obtain ⟨a1, c1, rfl⟩ := own_form own1) | (go_at_call 155; refine (PA.out _).mono ?_; rintro e w2 ⟨rfl, rfl⟩))
    have hs1 := k1.size
    have bo0 : Blk ((w1.alloc (.cells #[.slice a1 b.length c1] 36)).alloc (.cells #[.int .u64 (n : Int)] 64)) w1.heap.size #[.slice a1 b.length c1] 36 := (Blk.new w1 _ _).alloc _
    have bn0 : Blk ((w1.alloc (.cells #[.slice a1 b.length c1] 36)).alloc (.cells #[.int .u64 (n : Int)] 64)) (w1.heap.size + 1) #[.int .u64 (n : Int)] 64 := by
      have := Blk.new (w1.alloc (.cells #[.slice a1 b.length c1] 36)) #[.int .u64 (n : Int)] 64
      simpa using this
    have kz : Keeps w1 ((w1.alloc (.cells #[.slice a1 b.length c1] 36)).alloc (.cells #[.int .u64 (n : Int)] 64)) [] := ((Keeps.refl w1 []).alloc _).alloc _
    have ow0 := own_keeps own1 kz
    have k0 := k1.then kz
    have hlg : ∀ g, (Value.slice a1 b.length c1).ownBlock = some g → g < w1.heap.size := fun g hg => (own1.lt g hg).2
    have hsz : ((w1.alloc (.cells #[.slice a1 b.length c1] 36)).alloc (.cells #[.int .u64 (n : Int)] 64)).heap.size = w1.heap.size + 2 := by simp
    clear own1 k1 kz
    generalize ((w1.alloc (.cells #[.slice a1 b.length c1] 36)).alloc (.cells #[.int .u64 (n : Int)] 64)) = Z at *
    refine range_PY (gf := 176) (lb := #[.pointer (some ⟨w1.heap.size + 1, 0, none⟩)]) rfl (enters_of Tryz.func176 (by kernel_rfl) rfl)
      (parts1_seq (w1.heap.size + 1) n Z hn bn0) (by simp; omega) (fun _ => rfl) 0
      (fun pre W => ∃ a c, Blk W w1.heap.size #[.slice a (b ++ pre).length c] 36 ∧ OwnB W w.heap.size (.slice a (b ++ pre).length c) (b ++ pre) ∧ Keeps w W [] ∧ (∀ g, (Value.slice a (b ++ pre).length c).ownBlock = some g → g ≠ w1.heap.size + 1 ∧ g ≠ w1.heap.size + 2 ∧ g ≠ w1.heap.size + 3))
      (fun pre W => False)
      (fun W => ∃ a c, Blk W w1.heap.size #[.slice a (b ++ varI n).length c] 36 ∧ OwnB W w.heap.size (.slice a (b ++ varI n).length c) (b ++ varI n) ∧ Keeps w W [])
      ?hI ?hIx ?h0 ?hround ?hdone ?hstop ?hex ?hrest
    case hI =>
      rintro s A B ⟨a2, c2, bo, ow, kw, hn2⟩ hab
      rw [hsz] at hab
      refine ⟨a2, c2, bo.keeps hab (by simp; omega), own_moved ow (fun g hg => ?_), kw.trans hab (fun j hj hlt => by simp at hj; omega), hn2⟩
      have := hn2 g hg
      exact hab.block g (ow.lt g hg).2 (by simp; omega)
    case hIx => exact fun s A B h _ => h
    case hstop => exact fun pre X _ h => h.elim
    case hex => exact fun a' W h => by simpa [Exit.inBlock, Exit.noGoto] using h
    case h0 =>
      refine ⟨a1, c1, by simpa using bo0, by simpa using ow0, k0, fun g hg => ?_⟩
      have := hlg g (by simpa using hg)
      omega
    case hdone =>
      rintro xs W hS ⟨a2, c2, bo, ow, kw, -⟩
      rw [hS] at bo ow
      exact ⟨a2, c2, bo, ow, kw⟩
    case hround =>
      rintro l pre x W hl hlt hD hF ⟨a2, c2, bo, ow, kw, hn2⟩ hsp
      gi_wp2
      refine ⟨SameAt.refl _ _, fun W2 hT => ?_⟩
      subst hl
      rw [hsz] at hT hD hlt
      obtain ⟨q, bn⟩ := hF
      have bo2 := hT.blk bo
      have bn2 := hT.blk bn
      have ow2 : OwnB W2 w.heap.size (.slice a2 (b ++ pre).length c2) (b ++ pre) := own_moved ow (fun g hg => hT.keeps.block g (ow.lt g hg).2 (by have := hn2 g hg; simp; omega))
      have kw2 : Keeps w W2 [] := kw.trans hT.keeps (fun j hj hlt => by simp at hj; omega)
      have hD2 : W2.heap[w1.heap.size + 2]? = some (.deferred (some [])) := (hT.keeps.block _ (by omega) (by simp)).trans hD
      obtain ⟨r0, r1, hr0, hr1⟩ := hT
      have hl2 : W2.heap[w1.heap.size + 3]? = some (.loop r1) := by rw [hr1]; exact World.putObj_heap_same hlt
      clear hr0 hr1 r0 bo bn ow kw hn2 hD
      have hpl : (b ++ pre).length + 1 ≤ 500010 := by have h1 := hsp.length_le; have h2 := HL.out; simp at h1 ⊢; omega
      have hlb := bo2.lt
      have ow3 := own_keeps ow2 ((Keeps.refl W2 []).alloc (.cells #[.int .u8 x] 5))
      have hm : (b ++ pre).map (Value.int .u8) ++ [.int .u8 x] = (b ++ (pre ++ [x])).map (Value.int .u8) := by simp
      have hm' : (b ++ (pre ++ [x])).length = (b ++ pre).length + 1 := by simp; omega
      have ne1 : (Value.slice a2 (b ++ pre).length c2).ownBlock ≠ some w1.heap.size := own_ne ow2 bo2 (fun cs h => by cases h)
      have ne2 : (Value.slice a2 (b ++ pre).length c2).ownBlock ≠ some (w1.heap.size + 1) := own_ne ow2 bn2 (fun cs h => by cases h)
      have ne3 : (Value.slice a2 (b ++ pre).length c2).ownBlock ≠ some (w1.heap.size + 2) := own_ne ow2 hD2 (fun cs h => by cases h)
      have ne4 : (Value.slice a2 (b ++ pre).length c2).ownBlock ≠ some (w1.heap.size + 3) := own_ne ow2 hl2 (fun cs h => by cases h)
      have hge : ∀ k, (Value.slice a2 (b ++ pre).length c2).ownBlock = some k → w.heap.size ≤ k := fun k hk => (ow2.lt k hk).1
      generalize (b ++ pre).map (Value.int .u8) = xs at *
      generalize (b ++ pre).length = N at *
      obtain ⟨cb, -⟩ := bo2.one
      have HM := Lib.hid hm
      have HM' := Lib.hid hm'
      have OW3 := Lib.hid ow3
      have HNE := Lib.hid (And.intro ne1 (And.intro ne2 (And.intro ne3 ne4)))
      have HGE := Lib.hid hge
      have BO2 := Lib.hid bo2
      have BN2 := Lib.hid bn2
      have HD2 := Lib.hid hD2
      have HL2 := Lib.hid hl2
      clear hm hm' hsp ow3 ne1 ne2 ne3 ne4 bn2 hD2 hl2 ow2 hge bo2
      have HNW : Hid (∀ (j : Nat) (u : Value), [Value.int IntKind.u8 x][j]? = some u → (W2.alloc (.cells #[.int .u8 x] 5)).cell? (Addr.add ⟨W2.heap.size, 0, none⟩ j) = some u) := fun j u hj => by
        cases j with
        | zero =>
          obtain rfl : Value.int .u8 x = u := by simpa using hj
          exact (Blk.new W2 #[.int .u8 x] 5).cell 0
        | succ j => simp at hj
      gi_wp2_with (gi_at_builtin; refine wpListIn_append_own _ rfl _ _ 36 rfl w.heap.size 5 i0 (.int .u8 0) 1 1 Tryz.underlying36 hi hz0 hz1 hz2 rfl (by decide) (.slice a2 N c2) N xs rfl OW3.out _ 1 1 [.int .u8 x] rfl rfl HNW.out (by simp [Value.oneCell']) (by unfold maxLen; omega) (by omega) (by simp; omega) ?_; intro v3 w3 own3 g3 _; obtain ⟨a3, c3, rfl⟩ := own_form own3; have bo3 : Blk w3 w1.heap.size #[.slice a2 N c2] 36 := (g3.block _ (by simp; omega) (fun e => HNE.out.1 e.symm)).trans (BO2.out.alloc _); obtain ⟨cb3, cf3⟩ := bo3.one)
      have st : ∀ (k : Nat) (o : Obj), W2.heap[k]? = some o → (Value.slice a2 N c2).ownBlock ≠ some k → w3.heap[k]? = some o := fun k o hk hne => by
        have hlt := (Array.getElem?_eq_some_iff.1 hk).1
        exact (g3.block k (by simp; omega) (fun e => hne e.symm)).trans ((((Keeps.refl W2 []).alloc _).block k hlt (by simp)).trans hk)
      have m1 := st _ _ BN2.out HNE.out.2.1
      have m2 := st _ _ HD2.out HNE.out.2.2.1
      have m3 := st _ _ HL2.out HNE.out.2.2.2
      have own3' : OwnB w3 w.heap.size (.slice a3 (b ++ (pre ++ [x])).length c3) (b ++ (pre ++ [x])) := by
        have h := own3
        rw [HM.out] at h
        unfold OwnB
        rw [HM'.out]
        exact h
      have q1 := own_ne own3' m1 (fun cs h => by cases h)
      have q2 := own_ne own3' m2 (fun cs h => by cases h)
      have q3 := own_ne own3' m3 (fun cs h => by cases h)
      have q0 := own_ne own3' bo3 (fun cs h => by cases h)
      have ks : Keeps w3 (w3.setCell ⟨w1.heap.size, 0, none⟩ (.slice a3 (N + 1) c3)) [w1.heap.size] := (Keeps.refl w3 [w1.heap.size]).setCell (.inr (by simp)) _
      have kg : Keeps W2 w3 (match (Value.slice a2 N c2).ownBlock with | some g => [g] | none => []) := ((Keeps.refl W2 _).alloc _).trans (Keeps.of_grown g3 (fun k hk => by rw [hk]; simp)) (fun j hj _ => hj)
      refine ⟨?_, a3, c3, ?_, ?_, ?_, ?_⟩
      · intro k hk
        have hk' : k = w1.heap.size + 1 ∨ k = w1.heap.size + 2 ∨ k = w1.heap.size + 3 := by simp [hsz] at hk; omega
        rcases hk' with rfl | rfl | rfl
        · exact (ks.block _ (Array.getElem?_eq_some_iff.1 m1).1 (by simp)).trans (m1.trans BN2.out.symm)
        · exact (ks.block _ (Array.getElem?_eq_some_iff.1 m2).1 (by simp)).trans (m2.trans HD2.out.symm)
        · exact (ks.block _ (Array.getElem?_eq_some_iff.1 m3).1 (by simp)).trans (m3.trans HL2.out.symm)
      · rw [HM'.out]
        exact bo3.set 0 _
      · exact own_moved own3' (fun g hg => ks.block g (own3'.lt g hg).2 (by simp; rintro rfl; exact q0 hg))
      · refine (kw2.trans kg (fun j hj hlt => ?_)).trans ks (fun j hj hlt => ?_)
        · have hgx : (Value.slice a2 N c2).ownBlock = some j := by
            cases a2 with
            | none => simp [Value.ownBlock] at hj
            | some a => simp [Value.ownBlock] at hj ⊢; exact hj.symm
          have := HGE.out j hgx; omega
        · simp at hj; omega
      · intro g hg
        refine ⟨?_, ?_, ?_⟩ <;> rintro rfl
        · exact q1 hg
        · exact q2 hg
        · exact q3 hg
    case hrest =>
      rintro D X hD hK ⟨a2, c2, bo, ow, kw⟩
      rw [hsz] at hD
      obtain ⟨cb, -⟩ := bo.one
      have OW := Lib.hid ow
      have ne := own_ne ow hK (fun cs h => by cases h)
      have NE := Lib.hid ne
      have hgg : (b ++ varI n).length = (b ++ varI n).length := rfl
      generalize hN : (b ++ varI n).length = N at cb
      have HN := Lib.hid hN
      clear ow ne hgg bo hN
      simp only [Exit.inBlock, Exit.then]
      go_wp2_with fail
      refine ⟨by simp, .inl ⟨_, _, rfl, run_takeDeferred hK, ?_⟩⟩
      have kp : Keeps X (X.putObj D (.deferred none)) [D] := keeps_put
      refine ⟨.tuple #[.slice a2 N c2, .int .i64 0], by simp [results, Tryz.results118], (HF.out _ _).2 ⟨_, rfl, ?_, kw.trans kp (fun j hj hlt => by simp at hj; omega)⟩⟩
      rw [← HN.out]
      exact own_moved OW.out (fun g hg => kp.block g (OW.out.lt g hg).2 (by simp; rintro rfl; exact NE.out hg))
end

section
set_option linter.unusedVariables false
set_option linter.unusedSimpArgs false

section
variable {P : Program} {md : Region.Mode} {os : List Oper} {Q : Exit → Act → World → Prop} {S : World → Prop}
theorem takeL {i : Nat} {oi : Oper} {v : Value} {fuel : Nat} {listed : Array Bool} {a : Act} {w : World} (hi : os[i]? = some oi)
    (hs : Region.noSelect os.toArray = true) (hf : Region.free md os.toArray listed i = true) (hr : (Region.ready md os.toArray listed).contains i = true)
    (hQ : ∀ c a w, Q (.panic c) (a.put oi.dst v) w → Q (.panic c) a w) (hw : Region.wanted oi (yielded os.toArray a.tmps) = true) (hy : ∀ w, S w → (execOp a.eval oi).run P w = .ok (.value v) w) (hS : S w)
    (h : wpAnyH P md os.toArray Q S fuel (listed.setIfInBounds i true) (a.put oi.dst v) w) : wpAnyH P md os.toArray Q S (fuel + 1) listed a w :=
  wpAnyH_take (by simpa using hi) hs hf hr hQ (Or.inl ⟨hw, hy⟩) hS h
theorem callL {i : Nat} {o : Oper} {fuel : Nat} {listed : Array Bool} {a : Act} {w : World} (hi : os[i]? = some o) (hr : Region.ready md os.toArray listed = [i])
    (h : ∀ K' : Act → World → Prop, Shut (∀ a w, S w → (S w → wpAnyH P md os.toArray Q S fuel (listed.setIfInBounds i true) a w) → K' a w) → if Region.wanted o (yielded os.toArray a.tmps) = true then Oper.wp P o a w K' Q else K' (a.put o.dst undef) w) :
    wpAnyH P md os.toArray Q S (fuel + 1) listed a w :=
  wpAnyH_ready hr (by simp) (AllReadyH.cons (by simpa using hi) h AllReadyH.nil)
end
end

end Go.Proofs.YtophgpnnjphnmaaGreat
