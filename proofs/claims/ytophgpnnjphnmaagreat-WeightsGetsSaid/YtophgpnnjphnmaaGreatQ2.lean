/-
  A range over a function whose iterator may keep cells of its own: what the iterator promises (SeqB), the law of the statement (range_B). No program is in sight here.
  Histograms: the plain law; lists of byte slices in memory. No program is in sight here.
  Walks over package spread: Step, turn and its iterator.
  Rows of bits in plain words: the bits of a number, the number of some bits, the bits of bytes. No program is in sight here.
  Walks over package bitin: the bits of a row as a number. (Printed by mkBv.py.)
  A range over a function whose iterator may change cells that it has captured (the blocks X): what the iterator promises (SeqX), the law of the statement. No program is in sight here.
  A range over a function whose iterator changes nothing but the blocks X that it has captured: the rounds may change all the rest. What the iterator promises (SeqY), the law of the statement. No program is in sight here.
  Varints. No program is in sight here.
-/
import Derived.Test.YtophgpnnjphnmaaGreatQ1
import Derived.RangeFuncNested
import Derived.RangeFuncBound
import Derived.RangeFuncCalls
import Derived.RangeFuncLeaves
import Derived.OwnWalkIn
import Derived.TacticsInMore
import Derived.LoopNIn
import Derived.LoopIn
import Derived.Scope
import Derived.Test.YtophgpnnjphnmaaGreatRows
import Derived.IntWalk
import Derived.BigFrameIn
import Derived.Stop.RegionWithIn
import Derived.ProofKit
import Derived.Laws.Bits64b
namespace Go.Proofs.YtophgpnnjphnmaaGreat
section
set_option linter.unusedVariables false
set_option linter.unusedSimpArgs false
open Go.RowKit

/-- The iterator g (captured: lb) hands out what S says; Sp: a part of it. The rounds may change the blocks C, all of them older than the iterator's call and fine; the iterator changes none that is older than its call. -/
def SeqB {α : Type} (P : Program) (g : Nat) (lb : Array Value) (encs : α → Array Value) (fine : Nat → Prop) (S Sp : List α → Prop) (w : World) : Prop :=
  ∀ (l : Nat) (C : List Nat) (J Jx : List α → World → Prop) (W : World), Below w.heap.size w W → (∀ k ∈ C, k < W.heap.size ∧ fine k) →
    (∀ s A B, J s A → Below W.heap.size A B → J s B) → (∀ s A B, Jx s A → Below W.heap.size A B → Jx s B) →
    (∀ pre x W1, J pre W1 → Sp (pre ++ [x]) → YieldAt Fence.wide 9 P l (encs x) W1 fun e W' =>
      (e = .returned (.bool true) ∧ J (pre ++ [x]) W' ∧ Keeps W1 W' C) ∨ (e = .returned (.bool false) ∧ Jx (pre ++ [x]) W' ∧ Keeps W1 W' C)) →
    J [] W →
    CallsIn Fence.wide 9 P g (#[.func (.yield l) #[] #[]] ++ lb) W fun e W' => (∃ v, e = .returned v) ∧ ((∃ xs, S xs ∧ J xs W') ∨ (∃ pre, Sp pre ∧ Jx pre W'))

/-- Block l, a loop's record, has turned; nothing else. -/
def Turned (l : Nat) (W W' : World) : Prop := ∃ r r', W.heap[l]? = some (.loop r) ∧ W' = W.putObj l (.loop r')

theorem Turned.keeps {l : Nat} {W W' : World} (h : Turned l W W') : Keeps W W' [l] := by
  obtain ⟨r, r', _, rfl⟩ := h
  exact ⟨rfl, rfl, rfl, by simp, fun k _ hn => World.putObj_heap_other (by simpa using hn)⟩
theorem Turned.below {l : Nat} {W W' : World} (h : Turned l W W') {B : Nat} (hB : B ≤ l) : Below B W W' := by
  obtain ⟨r, r', _, rfl⟩ := h
  exact ⟨rfl, rfl, rfl, by simp, fun k hk => World.putObj_heap_other (by omega)⟩
theorem Turned.blk {l : Nat} {W W' : World} (h : Turned l W W') {b : Nat} {cs : Array Value} {T : TypeId} (hb : Blk W b cs T) : Blk W' b cs T := by
  obtain ⟨r, r', hr, rfl⟩ := h
  refine (World.putObj_heap_other ?_).trans hb
  intro e
  subst e
  have hb' : W.heap[b]? = some (.cells cs T (0, 0)) := hb
  rw [hr] at hb'
  cases hb'
theorem Turned.size {l : Nat} {W W' : World} (h : Turned l W W') : W'.heap.size = W.heap.size := by
  obtain ⟨r, r', _, rfl⟩ := h; simp

/-- How a round's body may be left. -/
def postB {α : Type} (C : List Nat) (I : List α → World → Prop) (Ix : Code → List α → World → Prop) (xs : List α) (W : World) : Exit → Act → World → Prop
  | .normal, _, W' => Keeps W W' C ∧ I xs W'
  | .ret, _, W' => Keeps W W' C ∧ Ix .ret xs W'
  | .exit id, _, W' => Keeps W W' C ∧ Ix (.exit id) xs W'
  | .goto t, _, W' => Keeps W W' C ∧ Ix (.goto t) xs W'
  | .panic _, _, _ => False
  | .outgrown, _, _ => False

theorem callsIn_any {n m : Nat} {P : Program} {f : FuncId} {args : Array Value} {w : World} {R : Ending → World → Prop} (h : CallsIn Fence.wide n P f args w R) : CallsIn Fence.wide m P f args w R := callsIn_wide.2 (callsIn_wide.1 h)

theorem round_any {n m : Nat} {P : Program} {l : Nat} {f : FuncId} {tmps : Array Value} {assign body : Code} {w : World} {R : Ending → World → Prop} (h : RoundIn Fence.wide n P l f tmps assign body w R) : RoundIn Fence.wide m P l f tmps assign body w R := ⟨h.1, fun c cs _ => h.2 c cs (room_wide _)⟩
/-- A round that is called in a round. -/
theorem round_in {n m : Nat} {P : Program} {l l' : Nat} {f : FuncId} {tmps : Array Value} {assign body : Code} {w : World} {R : Ending → World → Prop} (h : RoundIn Fence.wide n P l f tmps assign body w R) : RoundIn (Fence.wide.inRound l') m P l f tmps assign body w R := round_any h
theorem calls_in {n : Nat} {P : Program} {l : Nat} {f : FuncId} {args : Array Value} {w : World} {R : Ending → World → Prop} (h : Calls P f args w R) : CallsIn (Fence.wide.inRound l) n P f args w R := CallsIn.inRound l (callsIn_wide.2 h)

/-- THE STATEMENT 'for .. := range g { .. }', outside of any round. -/
theorem range_B {α : Type} {P : Program} {n : Nat} {g : Operand} {ps : Array Tmp} {assign body : Code} {Q : Exit → Act → World → Prop} {a : Act} {w : World}
    {gf : Nat} {lb : Array Value} (hg : a.eval g = .func (.func gf) #[] lb) (eg : ∀ args w, (callFunc gf args).run P w = .ok (.enter gf args) w)
    {encs : α → Array Value} {fine : Nat → Prop} {S Sp : List α → Prop} (hseq : SeqB P gf lb encs fine S Sp w)
    (C : List Nat) (hC : ∀ k ∈ C, k < w.heap.size ∧ fine k) (hfine : fine (w.heap.size + 1)) (hps : ∀ x, (encs x).size = ps.size)
    (I : List α → World → Prop) (Ix : Code → List α → World → Prop) (hI : ∀ s A B, I s A → Below w.heap.size A B → I s B) (hIx : ∀ c s A B, Ix c s A → Below w.heap.size A B → Ix c s B) (h0 : I [] w)
    (hround : ∀ (l : Nat) (pre : List α) (x : α) (W : World), w.heap.size ≤ l → l < W.heap.size → I pre W → Sp (pre ++ [x]) →
      assign.wpIn (Fence.wide.inRound l) 9 P (Exit.then (fun a' W' => Keeps W W' C ∧ ∀ W2, Turned l W' W2 → body.wpIn (Fence.wide.inRound l) 9 P (postB C I Ix (pre ++ [x]) W2) a' W2) (fun _ _ _ => False))
        { tmps := (ps.zip (encs x)).foldl (fun t (p, v) => t.setIfInBounds p v) a.tmps, defers := [] } W)
    (hdone : ∀ (D : Nat) (xs : List α) (W : World), w.heap.size ≤ D → S xs → I xs W → W.heap[D]? = some (.deferred (some [])) → Q .normal { a with defers := { target := .collected D, args := #[] } :: a.defers } W)
    (hstop : ∀ (D : Nat) (c : Code) (pre : List α) (W : World), w.heap.size ≤ D → Sp pre → Ix c pre W → W.heap[D]? = some (.deferred (some [])) → c.wpIn Fence.wide n P Q { a with defers := { target := .collected D, args := #[] } :: a.defers } W) :
    (Code.rangeFunc g ps assign body).wpIn Fence.wide n P Q a w := by
  refine wpIn_rangeFunc ?_
  intro fn hfn
  obtain ⟨rec, hrec⟩ : ∃ rec : LoopState → Option Code → Loop, rec = fun st pe => { state := st, pending := pe, fn, tmps := a.tmps, params := ps, assign, body, defers := w.heap.size } := ⟨_, rfl⟩
  obtain ⟨W1, hW1⟩ : ∃ W1, (w.alloc (.deferred (some []))).alloc (.loop (rec .ready none)) = W1 := ⟨_, rfl⟩
  have hs1 : W1.heap.size = w.heap.size + 2 := by rw [← hW1]; simp
  have hB1 : Below w.heap.size w W1 := by rw [← hW1]; exact ((Below.refl _ w).alloc (Nat.le_refl _) _).alloc (by simp) _
  have hL1 : W1.heap[w.heap.size + 1]? = some (.loop (rec .ready none)) := by
    rw [← hW1]; have := World.alloc_heap_new (w.alloc (.deferred (some []))) (.loop (rec .ready none)); rwa [World.size_alloc] at this
  have hK1 : W1.heap[w.heap.size]? = some (.deferred (some [])) := by
    rw [← hW1]; exact (Below.heap_alloc _ _ _ (by simp)).trans (World.alloc_heap_new w _)
  -- what lies older than the iterator's call is handed on by whatever the iterator does
  have turn : ∀ {A : World} {r : Loop} (r' : Loop), A.heap[w.heap.size + 1]? = some (.loop r) → Below w.heap.size A (A.putObj (w.heap.size + 1) (.loop r')) := fun r' h =>
    Turned.below ⟨_, r', h, rfl⟩ (Nat.le_succ _)
  refine ⟨w.heap.size + 1, [{ target := .collected w.heap.size, args := #[] }], W1, { target := .fn (.func gf) lb, args := #[.func (.yield (w.heap.size + 1)) #[] #[]] }, W1, gf,
    #[.func (.yield (w.heap.size + 1)) #[] #[]] ++ lb, W1, ?_, ?_, fun _ _ => trivial, ?_, fun h => by simp [Fence.wide] at h, callsIn_any (n := 9) ?_⟩
  · rw [← hW1, hrec]; exact run_enterLoop_outer _ _ _ _ _
  · simp only [resolve, hg]
    simp [go_sem]
  · simp [invoke, go_sem, eg]
  refine (hseq (w.heap.size + 1) (C ++ [w.heap.size + 1])
    (fun pre W => I pre W ∧ W.heap[w.heap.size + 1]? = some (.loop (rec .ready none)) ∧ W.heap[w.heap.size]? = some (.deferred (some [])))
    (fun pre W => ∃ c, Ix c pre W ∧ W.heap[w.heap.size + 1]? = some (.loop (rec .done (some c))) ∧ W.heap[w.heap.size]? = some (.deferred (some [])))
    W1 hB1 ?_ ?_ ?_ ?_ ⟨hI _ _ _ h0 hB1, hL1, hK1⟩).mono ?_
  · intro k hk
    rcases List.mem_append.1 hk with hk | hk
    · exact ⟨by have := (hC k hk).1; omega, (hC k hk).2⟩
    · simp at hk; subst hk; exact ⟨by omega, hfine⟩
  · rintro s A B ⟨hi, hl, hk⟩ hb
    exact ⟨hI _ _ _ hi (hb.mono (by omega)), (hb.block _ (by omega)).trans hl, (hb.block _ (by omega)).trans hk⟩
  · rintro s A B ⟨c, hi, hl, hk⟩ hb
    exact ⟨c, hIx _ _ _ _ hi (hb.mono (by omega)), (hb.block _ (by omega)).trans hl, (hb.block _ (by omega)).trans hk⟩
  · -- one round
    rintro pre x W ⟨hi, hl, hk⟩ hsp
    have hlt : w.heap.size + 1 < W.heap.size := (Array.getElem?_eq_some_iff.1 hl).1
    have hy := run_yield (P := P) (args := encs x) hl (by rw [hrec]; exact hps x)
    rw [hrec] at hy
    refine ⟨fn, _, assign, body, hy, roundIn_of_wpIn hfn (wpIn_mono (hround _ pre x W (Nat.le_succ _) hlt hi hsp) ?_)⟩
    clear hy
    rintro e a' Wa hq
    cases e with
    | normal =>
      obtain ⟨hka, hbody⟩ := hq
      have notC : ∀ k, w.heap.size ≤ k → k ∉ C := fun k h hm => by have := (hC k hm).1; omega
      have hla := (hka.block _ hlt (notC _ (by omega))).trans hl
      have hKa := (hka.block _ (by omega) (notC _ (by omega))).trans hk
      have hlta : w.heap.size + 1 < Wa.heap.size := (Array.getElem?_eq_some_iff.1 hla).1
      refine ⟨_, run_beginRound hla (by rw [hrec]), ?_⟩
      have hT : Turned (w.heap.size + 1) Wa (Wa.putObj (w.heap.size + 1) (.loop { rec .ready none with state := .busy })) := ⟨_, _, hla, rfl⟩
      have hl2 : (Wa.putObj (w.heap.size + 1) (.loop { rec .ready none with state := .busy })).heap[w.heap.size + 1]? = some (.loop { rec .ready none with state := .busy }) := World.putObj_heap_same hlta
      have hk2 : (Wa.putObj (w.heap.size + 1) (.loop { rec .ready none with state := .busy })).heap[w.heap.size]? = some (.deferred (some [])) := (World.putObj_heap_other (by omega)).trans hKa
      have hka2 : Keeps W (Wa.putObj (w.heap.size + 1) (.loop { rec .ready none with state := .busy })) (C ++ [w.heap.size + 1]) :=
        (hka.mono (fun x hx => List.mem_append.2 (.inl hx))).trans hT.keeps (fun x hx _ => List.mem_append.2 (.inr hx))
      refine wpIn_mono (hbody _ hT) ?_
      have fin : ∀ (jump : Option Code) (W3 : World), Keeps (Wa.putObj (w.heap.size + 1) (.loop { rec .ready none with state := .busy })) W3 C →
          (Instr.endRound (w.heap.size + 1) jump).run P W3 = .ok (.bool jump.isNone) (W3.putObj (w.heap.size + 1) (.loop (rec (if jump.isNone then .ready else .done) jump))) ∧
          Below w.heap.size W3 (W3.putObj (w.heap.size + 1) (.loop (rec (if jump.isNone then .ready else .done) jump))) ∧
          (W3.putObj (w.heap.size + 1) (.loop (rec (if jump.isNone then .ready else .done) jump))).heap[w.heap.size + 1]? = some (.loop (rec (if jump.isNone then .ready else .done) jump)) ∧
          (W3.putObj (w.heap.size + 1) (.loop (rec (if jump.isNone then .ready else .done) jump))).heap[w.heap.size]? = some (.deferred (some [])) ∧
          Keeps W (W3.putObj (w.heap.size + 1) (.loop (rec (if jump.isNone then .ready else .done) jump))) (C ++ [w.heap.size + 1]) := fun jump W3 hk3 => by
        have hl3 := (hk3.block _ (by simp; omega) (notC _ (by omega))).trans hl2
        have hk3' := (hk3.block _ (by simp; omega) (notC _ (by omega))).trans hk2
        have hr := run_endRound (P := P) jump hl3
        have hT3 : Turned (w.heap.size + 1) W3 (W3.putObj (w.heap.size + 1) (.loop (rec (if jump.isNone then .ready else .done) jump))) := ⟨_, _, hl3, rfl⟩
        refine ⟨?_, hT3.below (Nat.le_succ _), World.putObj_heap_same (Array.getElem?_eq_some_iff.1 hl3).1, (World.putObj_heap_other (by omega)).trans hk3', ?_⟩
        · rw [hrec] at hr ⊢; exact hr
        · exact (hka2.trans (hk3.mono (fun x hx => List.mem_append.2 (.inl hx))) (fun x hx _ => hx)).trans hT3.keeps (fun x hx _ => List.mem_append.2 (.inr hx))
      rintro e a3 W3 hp
      cases e with
      | normal =>
        obtain ⟨hk3, hi3⟩ := hp
        obtain ⟨hr, hb4, hl4, hk4, hkk⟩ := fin none W3 hk3
        exact ⟨_, _, hr, .inl ⟨rfl, ⟨hI _ _ _ hi3 hb4, hl4, hk4⟩, hkk⟩⟩
      | ret =>
        obtain ⟨hk3, hi3⟩ := hp
        obtain ⟨hr, hb4, hl4, hk4, hkk⟩ := fin (some .ret) W3 hk3
        exact ⟨_, _, hr, .inr ⟨rfl, ⟨.ret, hIx _ _ _ _ hi3 hb4, hl4, hk4⟩, hkk⟩⟩
      | exit id =>
        obtain ⟨hk3, hi3⟩ := hp
        obtain ⟨hr, hb4, hl4, hk4, hkk⟩ := fin (some (.exit id)) W3 hk3
        exact ⟨_, _, hr, .inr ⟨rfl, ⟨.exit id, hIx _ _ _ _ hi3 hb4, hl4, hk4⟩, hkk⟩⟩
      | goto t =>
        obtain ⟨hk3, hi3⟩ := hp
        obtain ⟨hr, hb4, hl4, hk4, hkk⟩ := fin (some (.goto t)) W3 hk3
        exact ⟨_, _, hr, .inr ⟨rfl, ⟨.goto t, hIx _ _ _ _ hi3 hb4, hl4, hk4⟩, hkk⟩⟩
      | panic ch => exact hp.elim
      | outgrown => exact hp.elim
    | exit id => exact hq.elim
    | goto t => exact hq.elim
    | ret => exact hq.elim
    | panic ch => exact hq.elim
    | outgrown => exact hq.elim
  · -- behind the iterator
    rintro e W2 ⟨⟨v, rfl⟩, (⟨xs, hS, hi, hl, hk⟩ | ⟨pre, hSp, c, hi, hl, hk⟩)⟩
    · exact ⟨none, _, by have := run_endLoop (P := P) hl (by rw [hrec]; simp); rw [hrec] at this; exact this, hdone _ xs _ (Nat.le_refl _) hS (hI _ _ _ hi (turn _ hl)) ((World.putObj_heap_other (by omega)).trans hk)⟩
    · exact ⟨some c, _, by have := run_endLoop (P := P) hl (by rw [hrec]; simp); rw [hrec] at this; exact this, hstop _ c pre _ (Nat.le_refl _) hSp (hIx _ _ _ _ hi (turn _ hl)) ((World.putObj_heap_other (by omega)).trans hk)⟩

/-- THE STATEMENT in the plain walk. -/
theorem range_P {α : Type} {P : Program} {g : Operand} {ps : Array Tmp} {assign body : Code} {Q : Exit → Act → World → Prop} {a : Act} {w : World}
    {gf : Nat} {lb : Array Value} (hg : a.eval g = .func (.func gf) #[] lb) (eg : ∀ args w, (callFunc gf args).run P w = .ok (.enter gf args) w)
    {encs : α → Array Value} {fine : Nat → Prop} {S Sp : List α → Prop} (hseq : SeqB P gf lb encs fine S Sp w)
    (C : List Nat) (hC : ∀ k ∈ C, k < w.heap.size ∧ fine k) (hfine : fine (w.heap.size + 1)) (hps : ∀ x, (encs x).size = ps.size)
    (I : List α → World → Prop) (Ix : Code → List α → World → Prop) (hI : ∀ s A B, I s A → Below w.heap.size A B → I s B) (hIx : ∀ c s A B, Ix c s A → Below w.heap.size A B → Ix c s B) (h0 : I [] w)
    (hround : ∀ (l : Nat) (pre : List α) (x : α) (W : World), w.heap.size ≤ l → l < W.heap.size → I pre W → Sp (pre ++ [x]) →
      assign.wpIn (Fence.wide.inRound l) 9 P (Exit.then (fun a' W' => Keeps W W' C ∧ ∀ W2, Turned l W' W2 → body.wpIn (Fence.wide.inRound l) 9 P (postB C I Ix (pre ++ [x]) W2) a' W2) (fun _ _ _ => False))
        { tmps := (ps.zip (encs x)).foldl (fun t (p, v) => t.setIfInBounds p v) a.tmps, defers := [] } W)
    (hdone : ∀ (D : Nat) (xs : List α) (W : World), w.heap.size ≤ D → S xs → I xs W → W.heap[D]? = some (.deferred (some [])) → Q .normal { a with defers := { target := .collected D, args := #[] } :: a.defers } W)
    (hstop : ∀ (D : Nat) (c : Code) (pre : List α) (W : World), w.heap.size ≤ D → Sp pre → Ix c pre W → W.heap[D]? = some (.deferred (some [])) → c.wp P Q { a with defers := { target := .collected D, args := #[] } :: a.defers } W) :
    (Code.rangeFunc g ps assign body).wp P Q a w :=
  (wpIn_wide (n := 9)).1 (range_B hg eg hseq C hC hfine hps I Ix hI hIx h0 hround hdone (fun D c pre W h1 h2 h3 h4 => wpIn_wide.2 (hstop D c pre W h1 h2 h3 h4)))

/-- THE STATEMENT in the plain walk, where a round may be left by one break alone: both ways out come to one fact F, from which the rest goes on. -/
theorem range_PX {α : Type} {P : Program} {g : Operand} {ps : Array Tmp} {assign body : Code} {Q : Exit → Act → World → Prop} {a : Act} {w : World}
    {gf : Nat} {lb : Array Value} (hg : a.eval g = .func (.func gf) #[] lb) (eg : ∀ args w, (callFunc gf args).run P w = .ok (.enter gf args) w)
    {encs : α → Array Value} {fine : Nat → Prop} {S Sp : List α → Prop} (hseq : SeqB P gf lb encs fine S Sp w)
    (C : List Nat) (hC : ∀ k ∈ C, k < w.heap.size ∧ fine k) (hfine : fine (w.heap.size + 1)) (hps : ∀ x, (encs x).size = ps.size) (id : Nat)
    (I Ix : List α → World → Prop) (F : World → Prop) (hI : ∀ s A B, I s A → Below w.heap.size A B → I s B) (hIx : ∀ s A B, Ix s A → Below w.heap.size A B → Ix s B) (h0 : I [] w)
    (hround : ∀ (l : Nat) (pre : List α) (x : α) (W : World), w.heap.size ≤ l → l < W.heap.size → I pre W → Sp (pre ++ [x]) →
      assign.wpIn (Fence.wide.inRound l) 9 P (Exit.then (fun a' W' => Keeps W W' C ∧ ∀ W2, Turned l W' W2 → body.wpIn (Fence.wide.inRound l) 9 P (postB C I (fun c s A => c = .exit id ∧ Ix s A) (pre ++ [x]) W2) a' W2) (fun _ _ _ => False))
        { tmps := (ps.zip (encs x)).foldl (fun t (p, v) => t.setIfInBounds p v) a.tmps, defers := [] } W)
    (hdone : ∀ (xs : List α) (W : World), S xs → I xs W → F W) (hstop : ∀ (pre : List α) (W : World), Sp pre → Ix pre W → F W)
    (hex : ∀ a' W, Q .normal a' W → Q (.exit id) a' W)
    (hrest : ∀ (D : Nat) (W : World), w.heap.size ≤ D → W.heap[D]? = some (.deferred (some [])) → F W → Q .normal { a with defers := { target := .collected D, args := #[] } :: a.defers } W) :
    (Code.rangeFunc g ps assign body).wp P Q a w :=
  range_P hg eg hseq C hC hfine hps I (fun c s A => c = .exit id ∧ Ix s A) hI (fun c s A B h hb => ⟨h.1, hIx s A B h.2 hb⟩) h0 hround
    (fun D xs W hD hS hi hK => hrest D W hD hK (hdone xs W hS hi))
    (fun D c pre W hD hS ⟨hc, hi⟩ hK => by subst hc; exact wp_exit (hex _ _ (hrest D W hD hK (hstop pre W hS hi))))
end

section
set_option linter.unusedVariables false
set_option linter.unusedSimpArgs false
open Go.RowKit

/-- One byte more. -/
def bump (h : List Int) (c : Int) : List Int := h.set c.toNat (if h.getD c.toNat 0 + 1 < 2147483648 then h.getD c.toNat 0 + 1 else 2147483648)
def histF (h : List Int) (l : List Int) : List Int := l.foldl bump h
def histL (l : List Int) : List Int := histF (List.replicate 256 0) l
def ints (h : List Int) : Array Value := (h.map (Value.int .i64)).toArray

theorem bump_len (h : List Int) (c : Int) : (bump h c).length = h.length := by simp [bump]
theorem histF_len (l : List Int) : ∀ h : List Int, (histF h l).length = h.length := by
  induction l with
  | nil => intro h; rfl
  | cons c l ih => intro h; exact (ih _).trans (bump_len h c)
theorem histF_snoc (h l : List Int) (c : Int) : histF h (l ++ [c]) = bump (histF h l) c := by simp [histF]
theorem histF_append (h l m : List Int) : histF h (l ++ m) = histF (histF h l) m := by simp [histF]
/-- All entries are counts. -/
def Counts (h : List Int) : Prop := h.length = 256 ∧ ∀ x ∈ h, 0 ≤ x ∧ x ≤ 2147483648
theorem Counts.zero : Counts (List.replicate 256 0) := ⟨List.length_replicate, fun x hx => by have := (List.mem_replicate.1 hx).2; omega⟩
theorem Counts.get {h : List Int} (hc : Counts h) {i : Nat} (hi : i < 256) : ∃ x, h[i]? = some x ∧ 0 ≤ x ∧ x ≤ 2147483648 := by
  have hlt : i < h.length := by rw [hc.1]; exact hi
  exact ⟨_, List.getElem?_eq_getElem hlt, hc.2 _ (List.getElem_mem hlt)⟩
theorem Counts.bump {h : List Int} (hc : Counts h) {c : Int} (h0 : 0 ≤ c) (h1 : c ≤ 255) : Counts (bump h c) := by
  refine ⟨by rw [bump_len]; exact hc.1, fun x hx => ?_⟩
  obtain ⟨y, hy, hy0, hy1⟩ := hc.get (i := c.toNat) (by omega)
  have hg : h.getD c.toNat 0 = y := by simp [List.getD, hy]
  unfold Go.Proofs.YtophgpnnjphnmaaGreat.bump at hx
  rw [hg] at hx
  rcases List.mem_or_eq_of_mem_set hx with hx | rfl
  · exact hc.2 x hx
  · split <;> omega
theorem Counts.histF {l : List Int} (hl : ∀ x ∈ l, 0 ≤ x ∧ x ≤ 255) : ∀ {h : List Int}, Counts h → Counts (histF h l) := by
  induction l with
  | nil => intro h hc; exact hc
  | cons c l ih => intro h hc; exact ih (fun x hx => hl x (by simp [hx])) (hc.bump (hl c (by simp)).1 (hl c (by simp)).2)

theorem ints_get {h : List Int} {i : Nat} {x : Int} (hx : h[i]? = some x) : (ints h)[i]? = some (.int .i64 x) := by simp [ints, hx]
theorem ints_set (h : List Int) (i : Nat) (x : Int) : (ints h).setIfInBounds i (.int .i64 x) = ints (h.set i x) := by simp [ints, List.map_set]
theorem ints_size (h : List Int) : (ints h).size = h.length := by simp [ints]

/-- A slice of slices of numbers reads as a list of lists. -/
structure RdL (k : IntKind) (w : World) (v : Value) (ls : List (List Int)) : Prop where
  form : ∃ a n cp, v = .slice a n cp ∧ n = ls.length ∧ (0 < n → n ≤ cp ∧ ∃ b o, a = some ⟨b, o, none⟩ ∧ b < w.heap.size ∧ ∀ i l, ls[i]? = some l → ∃ vi, w.cell? ⟨b, o + i, none⟩ = some vi ∧ RdI k w vi l)

section
variable {k : IntKind} {w w' : World} {v : Value} {ls : List (List Int)} {a : Option Addr} {n cp : Nat}
theorem RdL.keeps (h : RdL k w v ls) (kk : Keeps w w' []) : RdL k w' v ls := by
  obtain ⟨a, n, cp, rfl, hn, hc⟩ := h.form
  refine ⟨a, n, cp, rfl, hn, fun hp => ?_⟩
  obtain ⟨h1, b, o, h2, h3, h4⟩ := hc hp
  refine ⟨h1, b, o, h2, Nat.lt_of_lt_of_le h3 kk.size, fun i l hl => ?_⟩
  obtain ⟨vi, h5, h6⟩ := h4 i l hl
  exact ⟨vi, (kk.cell (p := ⟨b, o + i, none⟩) h3 (by simp)).trans h5, h6.keeps kk⟩
theorem RdL.at (h : RdL k w (.slice a n cp) ls) {i : Nat} {l : List Int} (hx : ls[i]? = some l) : ∃ b o vi, a = some ⟨b, o, none⟩ ∧ b < w.heap.size ∧ w.cell? ⟨b, o + i, none⟩ = some vi ∧ RdI k w vi l ∧ n ≤ cp := by
  obtain ⟨a', n', cp', he, hl, hc⟩ := h.form
  obtain ⟨h1, h2, h3⟩ := Value.slice.inj he
  subst h1 h2 h3
  have hlt := (List.getElem?_eq_some_iff.1 hx).1
  obtain ⟨h0, b, o, h2, h3, h4⟩ := hc (by omega)
  obtain ⟨vi, h5, h6⟩ := h4 i l hx
  exact ⟨b, o, vi, h2, h3, h5, h6, h0⟩
theorem RdL.len (h : RdL k w (.slice a n cp) ls) : n = ls.length := by
  obtain ⟨a', n', cp', he, hl, -⟩ := h.form
  obtain ⟨h1, h2, h3⟩ := Value.slice.inj he
  rw [h2, hl]
end
end

section
set_option linter.unusedVariables false
set_option linter.unusedSimpArgs false
set_option linter.unusedSectionVars false
open Go.RowKit

attribute [local go_sem] Oper.semAt_some

theorem step_any (s : Nat) (w : World) (h1 : 1 ≤ s) (h2 : s ≤ 512) :
    Calls Tryz.prog 179 #[.int .i64 s] w fun e w' => e = .returned (.int .i64 (stepN s : Nat)) ∧ w = w' := by
  have hmx : min (max (s : Int) 1) 512 = (s : Int) := by omega
  by_cases h : s < 16
  · have hl : (s : Int) < 16 := by omega
    have e : stepN s = 1 := if_pos h
    rw [e]
    clear h e
    go_enter Tryz.func179, Tryz.ntmps179
    go_wp2_with fail
    go_ret
    exact ⟨rfl, rfl⟩
  · have hl : decide ((s : Int) < 16) = false := decide_eq_false (by omega)
    have e : stepN s = s / 2 + s / 8 + 3 := if_neg h
    rw [e]
    obtain ⟨a, ha⟩ : ∃ a : Nat, s / 2 = a := ⟨_, rfl⟩
    obtain ⟨b, hb⟩ : ∃ b : Nat, s / 8 = b := ⟨_, rfl⟩
    have ha' : (s : Int) / 2 = (a : Int) := by omega
    have hb' : (s : Int) / 8 = (b : Int) := by omega
    rw [ha, hb]
    have hab : a ≤ 256 ∧ b ≤ 64 := by omega
    obtain ⟨ha2, hb2⟩ := hab
    clear h e ha hb
    go_enter Tryz.func179, Tryz.ntmps179
    go_wp2_with fail
    go_ret
    exact ⟨ret_int (by simp), rfl⟩

theorem turn_any (s : Nat) (w : World) : Calls Tryz.prog 166 #[.int .i64 s] w fun e w' => e = .returned (.func (.func 178) #[] #[.pointer (some ⟨w.heap.size, 0, none⟩)]) ∧ w' = w.alloc (.cells #[.int .i64 s] 3) := by
  have hmf : ∀ (fn : Fn) (first cap : Array Value) (w : World), (Instr.makeFunc fn first cap).run Tryz.prog w = .ok (.func fn first cap) w := fun _ _ _ _ => rfl
  go_enter Tryz.func166, Tryz.ntmps166
  go_wp2_with fail
  go_ret
  exact ⟨rfl, rfl⟩

abbrev encI (x : Int) : Array Value := #[.int .i64 x]
/-- The visited places, in order. -/
def visitL (s k : Nat) : List Int := (List.range k).map fun j => ((visitN s j : Nat) : Int)
theorem visitL_succ (s k : Nat) : visitL s (k + 1) = visitL s k ++ [((visitN s k : Nat) : Int)] := by simp [visitL, List.range_succ]
theorem visitL_len (s k : Nat) : (visitL s k).length = k := by simp [visitL]
theorem visitL_pre {s k m : Nat} (h : k ≤ m) : visitL s k <+: visitL s m := by
  obtain ⟨d, rfl⟩ := Nat.exists_eq_add_of_le h
  induction d with
  | zero => exact List.prefix_refl _
  | succ d ih =>
    refine (ih (by omega)).trans ?_
    rw [← Nat.add_assoc, visitL_succ]
    exact List.prefix_append _ _

set_option maxRecDepth 100000 in
set_option maxHeartbeats 2000000 in
theorem turn1_seq (bs s : Nat) (w : World) (h1 : 1 ≤ s) (h2 : s ≤ 512) (hb : Blk w bs #[.int .i64 s] 3) :
    SeqB Tryz.prog 178 #[.pointer (some ⟨bs, 0, none⟩)] encI (fun k => k ≠ bs)
      (fun ys => ys = visitL s s) (fun pre => pre <+: visitL s s) w := by
  intro lo C J Jx W hW hC hJ hJx hY h0
  have hKW := Keeps.of_below hW
  have hb0 := hb.keeps hKW (by simp)
  have HY := Lib.hid hY
  have HJ := Lib.hid hJ
  have HC := Lib.hid hC
  have HST := Lib.hid (fun w1 => step_any s w1 h1 h2)
  clear hb hY hJ hJx hC hW hKW
  refine callsIn_of_wp Tryz.func178 rfl trivial ?_ rfl
  simp only [Tryz.ntmps178, List.size_toArray, List.length_cons, List.length_nil, Nat.reduceAdd, Nat.reduceSub, Array.replicate_succ, Array.replicate_zero, List.push_toArray, List.append_toArray, List.nil_append, List.cons_append]
  obtain ⟨c0, -⟩ := hb0.one
  have hlt0 := hb0.lt
  gi_wp2
  clear c0
  gi_loopw [5] (fun s5 wr => ∃ k : Nat, k ≤ s ∧ s5 = .int .i64 k ∧ Blk wr bs #[.int .i64 s] 3 ∧ Hid (J (visitL s k) wr)) (fun s5 _ => s - (intOf s5).toNat)
  case atStart => exact ⟨0, Nat.zero_le _, rfl, hb0, h0⟩
  case round =>
    clear hb0
    obtain ⟨k, hk, rfl, hbk, hJs⟩ := hrel
    obtain ⟨c0, -⟩ := hbk.one
    by_cases hlt : k < s
    · have hkk : (k : Int) < (s : Int) := by omega
      obtain ⟨T, hT⟩ : ∃ T, stepN s = T := ⟨_, rfl⟩
      have hT8 : T ≤ 512 := by rw [← hT]; unfold stepN; split <;> omega
      have hkT : k * T ≤ 512 * 512 := Nat.mul_le_mul (by omega) hT8
      obtain ⟨V, hV⟩ : ∃ V, visitN s k = V := ⟨_, rfl⟩
      have hVe : (k : Int) * (T : Int) % (s : Int) = (V : Int) := by rw [← hV, ← hT, ← Int.natCast_mul]; rfl
      have hsp : visitL s (k + 1) = visitL s k ++ [(V : Int)] := by rw [visitL_succ, hV]
      have HSP := Lib.hid (show visitL s k ++ [(V : Int)] <+: visitL s s by rw [← hsp]; exact visitL_pre hlt)
      have hJd : J (visitL s k) wr.drew := HJ.out _ _ _ hJs.out (Below.refl _ wr).drew
      obtain ⟨fn, tmps, assign, body, hy, hR⟩ := HY.out (visitL s k) (V : Int) wr.drew hJd HSP.out
      have hR2 := (round_any (m := 8) hR).mono (R' := fun e W' => ∃ b : Bool, e = .returned (.bool b) ∧ Hid ((b = true → J (visitL s (k + 1)) W') ∧ (b = false → Jx (visitL s k ++ [(V : Int)]) W') ∧ Keeps wr.drew W' C)) (by
        rintro e W3 (⟨rfl, hJ3, hk3⟩ | ⟨rfl, hJx3, hk3⟩)
        · exact ⟨true, rfl, (fun _ => by rw [hsp]; exact hJ3), (fun h => by cases h), hk3⟩
        · exact ⟨false, rfl, (fun h => by cases h), (fun _ => hJx3), hk3⟩)
      rw [hT] at HST
      dsimp only [encI] at hy
      have HB := Lib.hid hbk
      have HSPE := Lib.hid hsp
      have hmix : Tryz.prog.follows .mixedOrders = true := by kernel_rfl
      clear hbk hsp hV hT hR hJd
      gi_wp2
      gi_region_with (first | (refine ⟨trivial, ?_⟩; gi_at_call 179; refine (callsIn_wide.2 (HST.out _)).mono ?_; rintro e w' ⟨rfl, rfl⟩) | (refine hR2.mono ?_; rintro e W3 ⟨b, rfl, hres⟩))
      all_goals
        cases b with
        | true =>
          have hb3 := HB.out.drew.keeps hres.out.2.2 (fun hm => (HC.out _ hm).2 rfl)
          have hJ3 := Lib.hid (hres.out.1 rfl)
          clear hres
          gi_wp2
          go_roundw
          case rel => exact ⟨k + 1, by omega, by go_num, hb3, hJ3⟩
          case measure => simp [intOf]; omega
        | false =>
          have hJ3 := Lib.hid (hres.out.2.1 rfl)
          clear hres
          gi_wp2
          first
            | (simp only [Exit.noGoto]; go_end0; exact ⟨⟨_, rfl⟩, .inr ⟨_, HSP.out, hJ3.out⟩⟩)
            | exact bodyPost_ret (v := .tuple #[]) (by simp [results, Tryz.results178]) rfl ⟨⟨_, rfl⟩, .inr ⟨_, HSP.out, hJ3.out⟩⟩
    · have hkk : decide ((k : Int) < (s : Int)) = false := decide_eq_false (by omega)
      have hks : k = s := by omega
      rw [hks] at hJs
      clear hks
      gi_wp2
      go_end0
      exact ⟨⟨_, rfl⟩, .inl ⟨_, rfl, hJs.out⟩⟩
end

section
set_option linter.unusedVariables false
set_option linter.unusedSimpArgs false

/-- The low n bits of v, the lowest first. -/
def bitsN (v : Nat) : Nat → List Bool
  | 0 => []
  | n + 1 => decide (v % 2 = 1) :: bitsN (v / 2) n
/-- The number of some bits, the lowest first. -/
def valL : List Bool → Nat
  | [] => 0
  | b :: l => (if b then 1 else 0) + 2 * valL l
/-- The bits of bytes. -/
def rowBits : List Int → List Bool
  | [] => []
  | x :: B => bitsN x.toNat 8 ++ rowBits B

theorem bitsN_len (v n : Nat) : (bitsN v n).length = n := by
  induction n generalizing v with
  | zero => rfl
  | succ n ih => simp [bitsN, ih]
theorem valL_append (a b : List Bool) : valL (a ++ b) = valL a + 2 ^ a.length * valL b := by
  induction a with
  | nil => simp [valL]
  | cons x a ih =>
    simp only [List.cons_append, valL, ih, List.length_cons, Nat.pow_succ]
    have : 2 * (2 ^ a.length * valL b) = 2 ^ a.length * 2 * valL b := by rw [Nat.mul_comm (2 ^ a.length) 2, Nat.mul_assoc]
    omega
theorem valL_lt (a : List Bool) : valL a < 2 ^ a.length := by
  induction a with
  | nil => simp [valL]
  | cons x a ih =>
    simp only [valL, List.length_cons, Nat.pow_succ]
    split <;> omega
theorem valL_bitsN (v n : Nat) : valL (bitsN v n) = v % 2 ^ n := by
  induction n generalizing v with
  | zero => simp [bitsN, valL, Nat.mod_one]
  | succ n ih =>
    have h1 : v % 2 ^ (n + 1) = v % 2 + 2 * (v / 2 % 2 ^ n) := by
      rw [Nat.pow_succ, Nat.mul_comm, Nat.mod_mul]
    simp only [bitsN, valL, ih]
    rw [h1]
    rcases Nat.mod_two_eq_zero_or_one v with h | h <;> simp [h]
theorem bitsN_drop (v n s : Nat) (h : s ≤ n) : (bitsN v n).drop s = bitsN (v / 2 ^ s) (n - s) := by
  induction s generalizing v n with
  | zero => simp
  | succ s ih =>
    obtain ⟨m, rfl⟩ : ∃ m, n = m + 1 := ⟨n - 1, by omega⟩
    simp only [bitsN, List.drop_succ_cons]
    rw [ih _ _ (by omega), Nat.div_div_eq_div_mul, Nat.pow_succ, Nat.mul_comm 2, Nat.succ_sub_succ]
theorem bitsN_take (v n k : Nat) (h : k ≤ n) : (bitsN v n).take k = bitsN v k := by
  induction k generalizing v n with
  | zero => simp [bitsN]
  | succ k ih =>
    obtain ⟨m, rfl⟩ : ∃ m, n = m + 1 := ⟨n - 1, by omega⟩
    simp only [bitsN, List.take_succ_cons]
    rw [ih _ _ (by omega)]
theorem rowBits_len (B : List Int) : (rowBits B).length = 8 * B.length := by
  induction B with
  | nil => rfl
  | cons x B ih => simp only [rowBits, List.length_append, bitsN_len, ih, List.length_cons]; omega
theorem rowBits_append (A B : List Int) : rowBits (A ++ B) = rowBits A ++ rowBits B := by
  induction A with
  | nil => rfl
  | cons x A ih => simp [rowBits, ih]
/-- The bits from a whole byte on. -/
theorem rowBits_drop (B : List Int) (i : Nat) : (rowBits B).drop (8 * i) = rowBits (B.drop i) := by
  induction i generalizing B with
  | zero => simp
  | succ i ih =>
    cases B with
    | nil => simp [rowBits]
    | cons x B =>
      rw [List.drop_succ_cons, ← ih, rowBits, show 8 * (i + 1) = 8 + 8 * i by omega, ← List.drop_drop, List.drop_left' (bitsN_len _ _)]
/-- Some bits within one byte. -/
theorem rowBits_piece {B : List Int} {i s k : Nat} {x : Int} (h : B[i]? = some x) (hs : s + k ≤ 8) : ((rowBits B).drop (8 * i + s)).take k = bitsN (x.toNat / 2 ^ s) k := by
  have hi := (List.getElem?_eq_some_iff.1 h).1
  rw [← List.drop_drop, rowBits_drop, List.drop_eq_getElem_cons hi, (List.getElem?_eq_some_iff.1 h).2, rowBits]
  rw [List.drop_append_of_le_length (by rw [bitsN_len]; omega), List.take_append_of_le_length (by rw [List.length_drop, bitsN_len]; omega), bitsN_drop _ _ _ (by omega), bitsN_take _ _ _ (by omega)]
theorem take_split {α : Type} (l : List α) (a k : Nat) : l.take (a + k) = l.take a ++ (l.drop a).take k := by
  rw [← List.take_append_drop a (l.take (a + k)), List.take_take, Nat.min_eq_left (by omega), List.drop_take]
  congr 1
  rw [Nat.add_sub_cancel_left]

theorem wrapU_nat {a : Nat} (h : a < 18446744073709551616) : IntKind.u64.wrap (a : Int) = (a : Int) := by
  simp [IntKind.wrap, IntKind.signed, IntKind.bits]
  omega
theorem or_high {v got y : Nat} (hv : v < 2 ^ got) : v ||| (y * 2 ^ got) = v + 2 ^ got * y := by
  rw [Nat.or_comm, ← Nat.shiftLeft_eq, ← Nat.shiftLeft_add_eq_or_of_lt hv, Nat.shiftLeft_eq, Nat.mul_comm, Nat.add_comm]
/-- A piece of a byte is laid above what has come. -/
theorem bit_step {v got x s k : Nat} (hv : v < 2 ^ got) (hx : x ≤ 255) (hk : got + k ≤ 64) (hk8 : k ≤ 8) :
    bits .or .u64 (v : Int) (IntKind.u64.wrap (bits .and .u64 (IntKind.u64.wrap (x : Int) / 2 ^ s) (IntKind.u64.wrap (IntKind.u64.wrap (2 ^ k) - 1)) * 2 ^ got)) = ((v + 2 ^ got * (x / 2 ^ s % 2 ^ k) : Nat) : Int) := by
  have hp : ∀ m, 0 < 2 ^ m := fun m => Nat.pow_pos (by omega)
  have h64 : 2 ^ got * 2 ^ k ≤ 18446744073709551616 := by
    rw [← Nat.pow_add, show (18446744073709551616 : Nat) = 2 ^ 64 by decide]
    exact Nat.pow_le_pow_right (by omega) hk
  have hk1 : 2 ^ k ≤ 256 := by
    rw [show (256 : Nat) = 2 ^ 8 by decide]
    exact Nat.pow_le_pow_right (by omega) hk8
  have hg1 : 2 ^ got ≤ 18446744073709551616 := Nat.le_trans (Nat.le_mul_of_pos_right _ (hp k)) h64
  have e1 : IntKind.u64.wrap (x : Int) / 2 ^ s = ((x / 2 ^ s : Nat) : Int) := by rw [wrapU_nat (by omega)]; simp
  have e2 : IntKind.u64.wrap (IntKind.u64.wrap (2 ^ k) - 1) = ((2 ^ k - 1 : Nat) : Int) := by
    have h1 : ((2 : Int) ^ k) = ((2 ^ k : Nat) : Int) := by simp
    have h2 := hp k
    rw [h1, wrapU_nat (by omega), show ((2 ^ k : Nat) : Int) - 1 = ((2 ^ k - 1 : Nat) : Int) by omega, wrapU_nat (by omega)]
  have hd : x / 2 ^ s ≤ x := Nat.div_le_self _ _
  rw [e1, e2, bits_and_u64_nat _ _ (by omega) (by omega), Nat.and_two_pow_sub_one_eq_mod]
  obtain ⟨y, hy⟩ : ∃ y, x / 2 ^ s % 2 ^ k = y := ⟨_, rfl⟩
  rw [hy]
  have hyk : y < 2 ^ k := by rw [← hy]; exact Nat.mod_lt _ (hp k)
  have h3 : ((y : Int) * 2 ^ got) = ((y * 2 ^ got : Nat) : Int) := by simp
  have h4 : y * 2 ^ got + 2 ^ got ≤ 2 ^ got * 2 ^ k := by
    have := Nat.mul_le_mul_left (2 ^ got) hyk
    rw [Nat.mul_succ, Nat.mul_comm] at this
    exact this
  have h5 := hp got
  rw [h3, wrapU_nat (by omega), bits_or_u64_nat _ _ (by omega) (by omega), or_high hv]
end

section
set_option linter.unusedVariables false
set_option linter.unusedSimpArgs false
set_option linter.unusedSectionVars false
open Go.RowKit

/-- The number of n bits of a row of bytes, from bit p on. -/
def bitsAt (B : List Int) (p n : Nat) : Nat := valL (((rowBits B).drop p).take n)
theorem bitsAt_zero (B : List Int) (p : Nat) : bitsAt B p 0 = 0 := by simp [bitsAt, valL]
theorem bitsAt_lt (B : List Int) (p n : Nat) : bitsAt B p n < 2 ^ n := by
  refine Nat.lt_of_lt_of_le (valL_lt _) (Nat.pow_le_pow_right (by omega) ?_)
  rw [List.length_take]; omega
theorem bitsAt_step {B : List Int} {p got k i s : Nat} {x : Int} (hx : B[i]? = some x) (hi : p + got = 8 * i + s) (hs : s + k ≤ 8) (hl : p + got ≤ 8 * B.length) : bitsAt B p (got + k) = bitsAt B p got + 2 ^ got * (x.toNat / 2 ^ s % 2 ^ k) := by
  unfold bitsAt
  rw [take_split, valL_append, List.drop_drop, hi, rowBits_piece hx hs, valL_bitsN, List.length_take, List.length_drop, rowBits_len, Nat.min_eq_left (by omega)]

set_option maxRecDepth 100000 in
set_option maxHeartbeats 4000000 in
theorem byteOn_any (A G N V RB R : Nat) (p got n : Nat) (bs : Value) (fr to : Int) (B : List Int) (w : World) (TA TG TN TV TR TF : TypeId) (hA : Blk w A #[.int .i64 p] TA) (hG : Blk w G #[.int .i64 got] TG) (hN : Blk w N #[.int .i64 n] TN) (hV : Blk w V #[.int .u64 (bitsAt B p got : Nat)] TV)
    (hRB : Blk w RB #[.pointer (some ⟨R, 0, none⟩)] TR) (hR : Blk w R #[bs, .int .i64 fr, .int .i64 to] TF) (hv : RdI .u8 w bs B) (hl : B.length ≤ 1000000) (hb : ∀ x ∈ B, 0 ≤ x ∧ x ≤ 255) (hat : p + n ≤ 8 * B.length) (hgn : got < n) (hn : n ≤ 64) (hGV : G ≠ V) (hAV : A ≠ V) (hAG : A ≠ G) :
    Calls Tryz.prog 164 #[.pointer (some ⟨A, 0, none⟩), .pointer (some ⟨G, 0, none⟩), .pointer (some ⟨N, 0, none⟩), .pointer (some ⟨V, 0, none⟩), .pointer (some ⟨RB, 0, none⟩)] w fun e w' =>
      ∃ k : Nat, 0 < k ∧ got + k ≤ n ∧ e = .returned (.tuple #[]) ∧ Blk w' G #[.int .i64 ((got + k : Nat) : Int)] TG ∧ Blk w' V #[.int .u64 (bitsAt B p (got + k) : Nat)] TV ∧ Keeps w w' [V, G] := by
  obtain ⟨A0, m, cp0, rfl, hnl, -⟩ := hv.form
  obtain ⟨a0, a1⟩ := hA.one
  obtain ⟨g0, g1⟩ := hG.one
  obtain ⟨n0, n1⟩ := hN.one
  obtain ⟨v0, v1⟩ := hV.one
  obtain ⟨r0, r1⟩ := hRB.one
  have q0 := hR.cell 0
  simp at q0
  obtain ⟨x, hx⟩ : ∃ x, B[(p + got) / 8]? = some x := ⟨_, List.getElem?_eq_getElem (by omega)⟩
  obtain ⟨bb, o, rfl, hbb, hc⟩ := hv.at hx
  have hcap := hv.cap
  obtain ⟨xn, rfl⟩ := Int.eq_ofNat_of_zero_le (hb x (List.mem_of_getElem? hx)).1
  have hx255 : xn ≤ 255 := by have := (hb _ (List.mem_of_getElem? hx)).2; omega
  obtain ⟨s, hs⟩ : ∃ s, (p + got) % 8 = s := ⟨_, rfl⟩
  obtain ⟨i, hi⟩ : ∃ i, (p + got) / 8 = i := ⟨_, rfl⟩
  rw [hi] at hx hc
  have es : ((p : Int) + (got : Int)) % 8 = (s : Int) := by omega
  have ei : ((p : Int) + (got : Int)) / 8 = (i : Int) := by omega
  obtain ⟨K8, h8⟩ : ∃ K : Nat, (8 : Int) - (s : Int) = (K : Int) := ⟨8 - s, by omega⟩
  obtain ⟨K9, h9⟩ : ∃ K : Nat, (n : Int) - (got : Int) = (K : Int) := ⟨n - got, by omega⟩
  have hlt0 := bitsAt_lt B p got
  have HST := Lib.hid (fun k (h : s + k ≤ 8) => bitsAt_step (p := p) (got := got) (k := k) (i := i) (s := s) hx (by omega) h (by omega))
  have HM := Lib.hid (show m = B.length from hnl)
  have HBS0 : ∀ k, got + k ≤ 64 → k ≤ 8 → bits .or .u64 ((bitsAt B p got : Nat) : Int) (IntKind.u64.wrap (bits .and .u64 ((xn : Int) / 2 ^ s) (IntKind.u64.wrap (IntKind.u64.wrap (2 ^ k) - 1)) * 2 ^ got)) = ((bitsAt B p got + 2 ^ got * (xn / 2 ^ s % 2 ^ k) : Nat) : Int) := fun k h1 h2 => by
    have h := bit_step (v := bitsAt B p got) (s := s) hlt0 hx255 h1 h2
    rw [wrapU_nat (a := xn) (by omega)] at h
    exact h
  have HBS := Lib.hid HBS0
  have hi0 : (i : Int) < (m : Int) := by omega
  have hi1 : (0 : Int) ≤ (i : Int) := by omega
  clear hx hb hlt0 HBS0
  generalize hv0 : bitsAt B p got = v at *
  by_cases hlt : (K9 : Int) < (K8 : Int)
  · have HQ := Lib.hid (HST.out K9 (by omega))
    rw [Int.toNat_natCast] at HQ
    have HBK := Lib.hid (HBS.out K9 (by omega) (by omega))
    have hcon : 0 < K9 ∧ got + K9 ≤ n := by omega
    have HCON := Lib.hid hcon
    clear hcon
    go_enter Tryz.func164, Tryz.ntmps164
    go_wp2_with fail
    go_region
    rw [HBK.out, ← HQ.out]
    have k1 : Keeps w (w.setCell ⟨V, 0, none⟩ (.int .u64 ((bitsAt B p (got + K9) : Nat) : Int))).drew [V, G] := ((Keeps.refl w _).setCell (.inr (by simp)) _).drew
    have bV : Blk (w.setCell ⟨V, 0, none⟩ (.int .u64 ((bitsAt B p (got + K9) : Nat) : Int))).drew V #[.int .u64 ((bitsAt B p (got + K9) : Nat) : Int)] TV := by have := (hV.set 0 (.int .u64 ((bitsAt B p (got + K9) : Nat) : Int))).drew; simpa using this
    have bG : Blk (w.setCell ⟨V, 0, none⟩ (.int .u64 ((bitsAt B p (got + K9) : Nat) : Int))).drew G #[.int .i64 got] TG := (hG.setOther (by dsimp only; exact hGV.symm) _).drew
    obtain ⟨w1, hw1⟩ : ∃ w1, w1 = (w.setCell ⟨V, 0, none⟩ (.int .u64 ((bitsAt B p (got + K9) : Nat) : Int))).drew := ⟨_, rfl⟩
    rw [← hw1] at bV bG k1 ⊢
    clear hw1 a0 a1 g0 g1 n0 n1 v0 v1 r0 r1 q0 hc
    obtain ⟨g0, g1⟩ := bG.one
    go_wp2_with fail
    go_end0
    refine ⟨K9, HCON.out.1, HCON.out.2, rfl, ?_, bV.setOther (by dsimp only; exact hGV) _, k1.setCell (.inr (by simp)) _⟩
    have := bG.set 0 (.int .i64 ((got : Int) + (K9 : Int)))
    simpa using this
  · have HQ := Lib.hid (HST.out K8 (by omega))
    rw [Int.toNat_natCast] at HQ
    have HBK := Lib.hid (HBS.out K8 (by omega) (by omega))
    have hcon : 0 < K8 ∧ got + K8 ≤ n := by omega
    have HCON := Lib.hid hcon
    clear hcon
    go_enter Tryz.func164, Tryz.ntmps164
    go_wp2_with fail
    go_region
    rw [HBK.out, ← HQ.out]
    have k1 : Keeps w (w.setCell ⟨V, 0, none⟩ (.int .u64 ((bitsAt B p (got + K8) : Nat) : Int))).drew [V, G] := ((Keeps.refl w _).setCell (.inr (by simp)) _).drew
    have bV : Blk (w.setCell ⟨V, 0, none⟩ (.int .u64 ((bitsAt B p (got + K8) : Nat) : Int))).drew V #[.int .u64 ((bitsAt B p (got + K8) : Nat) : Int)] TV := by have := (hV.set 0 (.int .u64 ((bitsAt B p (got + K8) : Nat) : Int))).drew; simpa using this
    have bG : Blk (w.setCell ⟨V, 0, none⟩ (.int .u64 ((bitsAt B p (got + K8) : Nat) : Int))).drew G #[.int .i64 got] TG := (hG.setOther (by dsimp only; exact hGV.symm) _).drew
    obtain ⟨w1, hw1⟩ : ∃ w1, w1 = (w.setCell ⟨V, 0, none⟩ (.int .u64 ((bitsAt B p (got + K8) : Nat) : Int))).drew := ⟨_, rfl⟩
    rw [← hw1] at bV bG k1 ⊢
    clear hw1 a0 a1 g0 g1 n0 n1 v0 v1 r0 r1 q0 hc
    obtain ⟨g0, g1⟩ := bG.one
    go_wp2_with fail
    go_end0
    refine ⟨K8, HCON.out.1, HCON.out.2, rfl, ?_, bV.setOther (by dsimp only; exact hGV) _, k1.setCell (.inr (by simp)) _⟩
    have := bG.set 0 (.int .i64 ((got : Int) + (K8 : Int)))
    simpa using this

def gotOf (w : World) (g : Nat) : Nat := match w.cell? ⟨g, 0, none⟩ with | some v => (intOf v).toNat | none => 0

set_option maxRecDepth 100000 in
set_option maxHeartbeats 4000000 in
theorem value_any (R : Nat) (p n : Nat) (bs : Value) (fr to : Int) (B : List Int) (w : World) (TF : TypeId) (hR : Blk w R #[bs, .int .i64 fr, .int .i64 to] TF) (hv : RdI .u8 w bs B) (hl : B.length ≤ 1000000) (hb : ∀ x ∈ B, 0 ≤ x ∧ x ≤ 255) (hat : p + n ≤ 8 * B.length) (hn : n ≤ 64) :
    Calls Tryz.prog 133 #[.pointer (some ⟨R, 0, none⟩), .int .i64 p, .int .i64 n] w fun e w' => e = .returned (.int .u64 (bitsAt B p n : Nat)) ∧ Keeps w w' [] := by
  have hmf : ∀ (fn : Fn) (first cap : Array Value) (w : World), (Instr.makeFunc fn first cap).run Tryz.prog w = .ok (.func fn first cap) w := fun _ _ _ _ => rfl
  have HBO := Lib.hid (fun w1 got (k : Keeps w w1 []) TA TG TN TV TR A G N V RB hA hG hN hV hRB hgn h1 h2 h3 => byteOn_any A G N V RB R p got n bs fr to B w1 TA TG TN TV TR TF hA hG hN hV hRB (hR.keeps k (by simp)) (hv.keeps k) hl hb hat hgn hn h1 h2 h3)
  clear hR hv hl hb hat
  go_enter Tryz.func133, Tryz.ntmps133
  go_wp2_with fail
  obtain ⟨bRB, bA, bN, bV, bG, k0⟩ : Blk (((((w.alloc (.cells #[.pointer (some ⟨R, 0, none⟩)] 204)).alloc (.cells #[.int .i64 p] 3)).alloc (.cells #[.int .i64 n] 3)).alloc (.cells #[.int .u64 0] 64)).alloc (.cells #[.int .i64 0] 3)) w.heap.size #[.pointer (some ⟨R, 0, none⟩)] 204 ∧ Blk (((((w.alloc (.cells #[.pointer (some ⟨R, 0, none⟩)] 204)).alloc (.cells #[.int .i64 p] 3)).alloc (.cells #[.int .i64 n] 3)).alloc (.cells #[.int .u64 0] 64)).alloc (.cells #[.int .i64 0] 3)) (w.heap.size + 1) #[.int .i64 p] 3 ∧ Blk (((((w.alloc (.cells #[.pointer (some ⟨R, 0, none⟩)] 204)).alloc (.cells #[.int .i64 p] 3)).alloc (.cells #[.int .i64 n] 3)).alloc (.cells #[.int .u64 0] 64)).alloc (.cells #[.int .i64 0] 3)) (w.heap.size + 1 + 1) #[.int .i64 n] 3 ∧ Blk (((((w.alloc (.cells #[.pointer (some ⟨R, 0, none⟩)] 204)).alloc (.cells #[.int .i64 p] 3)).alloc (.cells #[.int .i64 n] 3)).alloc (.cells #[.int .u64 0] 64)).alloc (.cells #[.int .i64 0] 3)) (w.heap.size + 1 + 1 + 1) #[.int .u64 0] 64 ∧ Blk (((((w.alloc (.cells #[.pointer (some ⟨R, 0, none⟩)] 204)).alloc (.cells #[.int .i64 p] 3)).alloc (.cells #[.int .i64 n] 3)).alloc (.cells #[.int .u64 0] 64)).alloc (.cells #[.int .i64 0] 3)) (w.heap.size + 1 + 1 + 1 + 1) #[.int .i64 0] 3 ∧ Keeps w (((((w.alloc (.cells #[.pointer (some ⟨R, 0, none⟩)] 204)).alloc (.cells #[.int .i64 p] 3)).alloc (.cells #[.int .i64 n] 3)).alloc (.cells #[.int .u64 0] 64)).alloc (.cells #[.int .i64 0] 3)) [] := by
    refine ⟨((((Blk.new w _ _).alloc _).alloc _).alloc _).alloc _, ?_, ?_, ?_, ?_, (((((Keeps.refl w []).alloc _).alloc _).alloc _).alloc _).alloc _⟩
    · have := (((Blk.new (w.alloc (.cells #[.pointer (some ⟨R, 0, none⟩)] 204)) #[.int .i64 p] 3).alloc (.cells #[.int .i64 n] 3)).alloc (.cells #[.int .u64 0] 64)).alloc (.cells #[.int .i64 0] 3)
      simpa only [World.size_alloc] using this
    · have := ((Blk.new ((w.alloc (.cells #[.pointer (some ⟨R, 0, none⟩)] 204)).alloc (.cells #[.int .i64 p] 3)) #[.int .i64 n] 3).alloc (.cells #[.int .u64 0] 64)).alloc (.cells #[.int .i64 0] 3)
      simpa only [World.size_alloc] using this
    · have := (Blk.new (((w.alloc (.cells #[.pointer (some ⟨R, 0, none⟩)] 204)).alloc (.cells #[.int .i64 p] 3)).alloc (.cells #[.int .i64 n] 3)) #[.int .u64 0] 64).alloc (.cells #[.int .i64 0] 3)
      simpa only [World.size_alloc] using this
    · have := Blk.new ((((w.alloc (.cells #[.pointer (some ⟨R, 0, none⟩)] 204)).alloc (.cells #[.int .i64 p] 3)).alloc (.cells #[.int .i64 n] 3)).alloc (.cells #[.int .u64 0] 64)) #[.int .i64 0] 3
      simpa only [World.size_alloc] using this
  generalize (((((w.alloc (.cells #[.pointer (some ⟨R, 0, none⟩)] 204)).alloc (.cells #[.int .i64 p] 3)).alloc (.cells #[.int .i64 n] 3)).alloc (.cells #[.int .u64 0] 64)).alloc (.cells #[.int .i64 0] 3)) = w0 at *
  obtain ⟨A, hA⟩ : ∃ A, A = w.heap.size + 1 := ⟨_, rfl⟩
  obtain ⟨N, hN⟩ : ∃ A, A = w.heap.size + 1 + 1 := ⟨_, rfl⟩
  obtain ⟨V, hV⟩ : ∃ A, A = w.heap.size + 1 + 1 + 1 := ⟨_, rfl⟩
  obtain ⟨G, hG⟩ : ∃ A, A = w.heap.size + 1 + 1 + 1 + 1 := ⟨_, rfl⟩
  rw [← hG] at bG ⊢
  rw [← hV] at bV ⊢
  rw [← hN] at bN ⊢
  rw [← hA] at bA ⊢
  have HD := Lib.hid (show G ≠ V ∧ A ≠ V ∧ A ≠ G ∧ w.heap.size < A ∧ w.heap.size < N ∧ w.heap.size < V ∧ w.heap.size < G ∧ N ≠ V ∧ N ≠ G from by omega)
  clear hA hN hV hG
  go_loopw [14] (fun s14 wr => ∃ got : Nat, got ≤ n ∧ Blk wr w.heap.size #[.pointer (some ⟨R, 0, none⟩)] 204 ∧ Blk wr A #[.int .i64 p] 3 ∧ Blk wr N #[.int .i64 n] 3 ∧ Blk wr V #[.int .u64 ((bitsAt B p got : Nat) : Int)] 64 ∧ Blk wr G #[.int .i64 (got : Int)] 3 ∧ Keeps w wr []) (fun _ wr => n - gotOf wr G)
  case atStart => exact ⟨0, Nat.zero_le _, bRB, bA, bN, by rw [bitsAt_zero]; exact bV, bG, k0⟩
  case round =>
    obtain ⟨got, hgn, cRB, cA, cN, cV, cG, kk⟩ := hrel
    obtain ⟨g0, g1⟩ := cG.one
    obtain ⟨n0, n1⟩ := cN.one
    by_cases hlt : got < n
    · have hkn : (got : Int) < (n : Int) := by omega
      have hgo : gotOf wr G = got := by unfold gotOf; rw [g0]; simp [intOf]
      go_wp2_with fail
      refine (HBO.out _ got kk _ _ _ _ _ A G N V w.heap.size cA cG cN cV cRB hlt HD.out.1 HD.out.2.1 HD.out.2.2.1).mono ?_
      rintro e w5 ⟨k, hk0, hkn2, rfl, dG, dV, k5⟩
      have kk5 : Keeps w w5 [] := kk.trans k5 (fun j hj hlt => by have := HD.out; simp at hj; omega)
      have dRB := cRB.keeps k5 (by have := HD.out; simp; omega)
      have dA := cA.keeps k5 (by have := HD.out; simp; omega)
      have dN := cN.keeps k5 (by have := HD.out; simp; omega)
      have hgo5 : gotOf w5 G = got + k := by unfold gotOf; rw [(dG.one).1]; simp [intOf]; omega
      have HGO := Lib.hid hgo
      have HGO5 := Lib.hid hgo5
      clear hgo hgo5 g0 g1 n0 n1
      go_wp2_with fail
      go_roundw
      case rel => exact ⟨got + k, hkn2, dRB, dA, dN, dV, dG, kk5⟩
      case measure => rw [HGO.out, HGO5.out]; omega
    · have : got = n := by omega
      subst this
      obtain ⟨v0, v1⟩ := cV.one
      have hlt' : ¬ ((got : Int) < (got : Int)) := by omega
      go_wp2_with fail
      refine bodyPost_ret (v := .int .u64 ((bitsAt B p got : Nat) : Int)) (by simp only [results, Tryz.results133]; go_simp) rfl ⟨rfl, ?_⟩
      exact kk.setCell (.inl (by have := HD.out; dsimp only; omega)) _
end

section
set_option linter.unusedVariables false
set_option linter.unusedSimpArgs false
open Go.RowKit

/-- What lies below n is as it was, but for the blocks X. -/
structure BelowX (X : List Nat) (n : Nat) (w w' : World) : Prop where
  os : w'.os = w.os
  tape : w'.tape = w.tape
  output : w'.output = w.output
  size : w.heap.size ≤ w'.heap.size
  block : ∀ k, k < n → k ∉ X → w'.heap[k]? = w.heap[k]?
theorem BelowX.of {X : List Nat} {n : Nat} {w w' : World} (h : Below n w w') : BelowX X n w w' := ⟨h.os, h.tape, h.output, h.size, fun k hk _ => h.block k hk⟩
theorem BelowX.mono {X : List Nat} {n m : Nat} {w w' : World} (h : BelowX X n w w') (hm : m ≤ n) : BelowX X m w w' := ⟨h.os, h.tape, h.output, h.size, fun k hk hn => h.block k (by omega) hn⟩
theorem Keeps.belowX {X : List Nat} {w w' : World} (h : Keeps w w' X) : BelowX X w.heap.size w w' := ⟨h.os, h.tape, h.output, h.size, fun k hk hn => h.block k hk hn⟩

/-- The iterator g (captured: lb) hands out what S says; Sp: a part of it. The rounds may change the blocks C, all of them older than the iterator's call and fine; the iterator changes none that is older than its call, but for X. -/
def SeqX {α : Type} (P : Program) (g : Nat) (lb : Array Value) (encs : α → Array Value) (fine : Nat → Prop) (X : List Nat) (S Sp : List α → Prop) (w : World) : Prop :=
  ∀ (l : Nat) (C : List Nat) (J Jx : List α → World → Prop) (W : World), Below w.heap.size w W → (∀ k ∈ C, k < W.heap.size ∧ fine k) →
    (∀ s A B, J s A → BelowX X W.heap.size A B → J s B) → (∀ s A B, Jx s A → BelowX X W.heap.size A B → Jx s B) →
    (∀ pre x W1, J pre W1 → Sp (pre ++ [x]) → YieldAt Fence.wide 9 P l (encs x) W1 fun e W' =>
      (e = .returned (.bool true) ∧ J (pre ++ [x]) W' ∧ Keeps W1 W' C) ∨ (e = .returned (.bool false) ∧ Jx (pre ++ [x]) W' ∧ Keeps W1 W' C)) →
    J [] W →
    CallsIn Fence.wide 9 P g (#[.func (.yield l) #[] #[]] ++ lb) W fun e W' => (∃ v, e = .returned v) ∧ ((∃ xs, S xs ∧ J xs W') ∨ (∃ pre, Sp pre ∧ Jx pre W'))

/-- THE STATEMENT 'for .. := range g { .. }', outside of any round. -/
theorem range_BX {α : Type} {P : Program} {n : Nat} {g : Operand} {ps : Array Tmp} {assign body : Code} {Q : Exit → Act → World → Prop} {a : Act} {w : World}
    {gf : Nat} {lb : Array Value} (hg : a.eval g = .func (.func gf) #[] lb) (eg : ∀ args w, (callFunc gf args).run P w = .ok (.enter gf args) w)
    {encs : α → Array Value} {fine : Nat → Prop} {X : List Nat} {S Sp : List α → Prop} (hseq : SeqX P gf lb encs fine X S Sp w)
    (C : List Nat) (hX : ∀ k ∈ X, k < w.heap.size) (hC : ∀ k ∈ C, k < w.heap.size ∧ fine k) (hfine : fine (w.heap.size + 1)) (hps : ∀ x, (encs x).size = ps.size)
    (I : List α → World → Prop) (Ix : Code → List α → World → Prop) (hI : ∀ s A B, I s A → BelowX X w.heap.size A B → I s B) (hIx : ∀ c s A B, Ix c s A → BelowX X w.heap.size A B → Ix c s B) (h0 : I [] w)
    (hround : ∀ (l : Nat) (pre : List α) (x : α) (W : World), w.heap.size ≤ l → l < W.heap.size → I pre W → Sp (pre ++ [x]) →
      assign.wpIn (Fence.wide.inRound l) 9 P (Exit.then (fun a' W' => Keeps W W' C ∧ ∀ W2, Turned l W' W2 → body.wpIn (Fence.wide.inRound l) 9 P (postB C I Ix (pre ++ [x]) W2) a' W2) (fun _ _ _ => False))
        { tmps := (ps.zip (encs x)).foldl (fun t (p, v) => t.setIfInBounds p v) a.tmps, defers := [] } W)
    (hdone : ∀ (D : Nat) (xs : List α) (W : World), w.heap.size ≤ D → S xs → I xs W → W.heap[D]? = some (.deferred (some [])) → Q .normal { a with defers := { target := .collected D, args := #[] } :: a.defers } W)
    (hstop : ∀ (D : Nat) (c : Code) (pre : List α) (W : World), w.heap.size ≤ D → Sp pre → Ix c pre W → W.heap[D]? = some (.deferred (some [])) → c.wpIn Fence.wide n P Q { a with defers := { target := .collected D, args := #[] } :: a.defers } W) :
    (Code.rangeFunc g ps assign body).wpIn Fence.wide n P Q a w := by
  refine wpIn_rangeFunc ?_
  intro fn hfn
  obtain ⟨rec, hrec⟩ : ∃ rec : LoopState → Option Code → Loop, rec = fun st pe => { state := st, pending := pe, fn, tmps := a.tmps, params := ps, assign, body, defers := w.heap.size } := ⟨_, rfl⟩
  obtain ⟨W1, hW1⟩ : ∃ W1, (w.alloc (.deferred (some []))).alloc (.loop (rec .ready none)) = W1 := ⟨_, rfl⟩
  have hs1 : W1.heap.size = w.heap.size + 2 := by rw [← hW1]; simp
  have hB1 : Below w.heap.size w W1 := by rw [← hW1]; exact ((Below.refl _ w).alloc (Nat.le_refl _) _).alloc (by simp) _
  have hL1 : W1.heap[w.heap.size + 1]? = some (.loop (rec .ready none)) := by
    rw [← hW1]; have := World.alloc_heap_new (w.alloc (.deferred (some []))) (.loop (rec .ready none)); rwa [World.size_alloc] at this
  have hK1 : W1.heap[w.heap.size]? = some (.deferred (some [])) := by
    rw [← hW1]; exact (Below.heap_alloc _ _ _ (by simp)).trans (World.alloc_heap_new w _)
  -- what lies older than the iterator's call is handed on by whatever the iterator does
  have turn : ∀ {A : World} {r : Loop} (r' : Loop), A.heap[w.heap.size + 1]? = some (.loop r) → Below w.heap.size A (A.putObj (w.heap.size + 1) (.loop r')) := fun r' h =>
    Turned.below ⟨_, r', h, rfl⟩ (Nat.le_succ _)
  refine ⟨w.heap.size + 1, [{ target := .collected w.heap.size, args := #[] }], W1, { target := .fn (.func gf) lb, args := #[.func (.yield (w.heap.size + 1)) #[] #[]] }, W1, gf,
    #[.func (.yield (w.heap.size + 1)) #[] #[]] ++ lb, W1, ?_, ?_, fun _ _ => trivial, ?_, fun h => by simp [Fence.wide] at h, callsIn_any (n := 9) ?_⟩
  · rw [← hW1, hrec]; exact run_enterLoop_outer _ _ _ _ _
  · simp only [resolve, hg]
    simp [go_sem]
  · simp [invoke, go_sem, eg]
  have nX : ∀ k, w.heap.size ≤ k → k ∉ X := fun k h hm => by have := hX k hm; omega
  refine (hseq (w.heap.size + 1) (C ++ [w.heap.size + 1])
    (fun pre W => I pre W ∧ W.heap[w.heap.size + 1]? = some (.loop (rec .ready none)) ∧ W.heap[w.heap.size]? = some (.deferred (some [])))
    (fun pre W => ∃ c, Ix c pre W ∧ W.heap[w.heap.size + 1]? = some (.loop (rec .done (some c))) ∧ W.heap[w.heap.size]? = some (.deferred (some [])))
    W1 hB1 ?_ ?_ ?_ ?_ ⟨hI _ _ _ h0 (.of hB1), hL1, hK1⟩).mono ?_
  · intro k hk
    rcases List.mem_append.1 hk with hk | hk
    · exact ⟨by have := (hC k hk).1; omega, (hC k hk).2⟩
    · simp at hk; subst hk; exact ⟨by omega, hfine⟩
  · rintro s A B ⟨hi, hl, hk⟩ hb
    exact ⟨hI _ _ _ hi (hb.mono (by omega)), (hb.block _ (by omega) (nX _ (by omega))).trans hl, (hb.block _ (by omega) (nX _ (by omega))).trans hk⟩
  · rintro s A B ⟨c, hi, hl, hk⟩ hb
    exact ⟨c, hIx _ _ _ _ hi (hb.mono (by omega)), (hb.block _ (by omega) (nX _ (by omega))).trans hl, (hb.block _ (by omega) (nX _ (by omega))).trans hk⟩
  · -- one round
    rintro pre x W ⟨hi, hl, hk⟩ hsp
    have hlt : w.heap.size + 1 < W.heap.size := (Array.getElem?_eq_some_iff.1 hl).1
    have hy := run_yield (P := P) (args := encs x) hl (by rw [hrec]; exact hps x)
    rw [hrec] at hy
    refine ⟨fn, _, assign, body, hy, roundIn_of_wpIn hfn (wpIn_mono (hround _ pre x W (Nat.le_succ _) hlt hi hsp) ?_)⟩
    clear hy
    rintro e a' Wa hq
    cases e with
    | normal =>
      obtain ⟨hka, hbody⟩ := hq
      have notC : ∀ k, w.heap.size ≤ k → k ∉ C := fun k h hm => by have := (hC k hm).1; omega
      have hla := (hka.block _ hlt (notC _ (by omega))).trans hl
      have hKa := (hka.block _ (by omega) (notC _ (by omega))).trans hk
      have hlta : w.heap.size + 1 < Wa.heap.size := (Array.getElem?_eq_some_iff.1 hla).1
      refine ⟨_, run_beginRound hla (by rw [hrec]), ?_⟩
      have hT : Turned (w.heap.size + 1) Wa (Wa.putObj (w.heap.size + 1) (.loop { rec .ready none with state := .busy })) := ⟨_, _, hla, rfl⟩
      have hl2 : (Wa.putObj (w.heap.size + 1) (.loop { rec .ready none with state := .busy })).heap[w.heap.size + 1]? = some (.loop { rec .ready none with state := .busy }) := World.putObj_heap_same hlta
      have hk2 : (Wa.putObj (w.heap.size + 1) (.loop { rec .ready none with state := .busy })).heap[w.heap.size]? = some (.deferred (some [])) := (World.putObj_heap_other (by omega)).trans hKa
      have hka2 : Keeps W (Wa.putObj (w.heap.size + 1) (.loop { rec .ready none with state := .busy })) (C ++ [w.heap.size + 1]) :=
        (hka.mono (fun x hx => List.mem_append.2 (.inl hx))).trans hT.keeps (fun x hx _ => List.mem_append.2 (.inr hx))
      refine wpIn_mono (hbody _ hT) ?_
      have fin : ∀ (jump : Option Code) (W3 : World), Keeps (Wa.putObj (w.heap.size + 1) (.loop { rec .ready none with state := .busy })) W3 C →
          (Instr.endRound (w.heap.size + 1) jump).run P W3 = .ok (.bool jump.isNone) (W3.putObj (w.heap.size + 1) (.loop (rec (if jump.isNone then .ready else .done) jump))) ∧
          Below w.heap.size W3 (W3.putObj (w.heap.size + 1) (.loop (rec (if jump.isNone then .ready else .done) jump))) ∧
          (W3.putObj (w.heap.size + 1) (.loop (rec (if jump.isNone then .ready else .done) jump))).heap[w.heap.size + 1]? = some (.loop (rec (if jump.isNone then .ready else .done) jump)) ∧
          (W3.putObj (w.heap.size + 1) (.loop (rec (if jump.isNone then .ready else .done) jump))).heap[w.heap.size]? = some (.deferred (some [])) ∧
          Keeps W (W3.putObj (w.heap.size + 1) (.loop (rec (if jump.isNone then .ready else .done) jump))) (C ++ [w.heap.size + 1]) := fun jump W3 hk3 => by
        have hl3 := (hk3.block _ (by simp; omega) (notC _ (by omega))).trans hl2
        have hk3' := (hk3.block _ (by simp; omega) (notC _ (by omega))).trans hk2
        have hr := run_endRound (P := P) jump hl3
        have hT3 : Turned (w.heap.size + 1) W3 (W3.putObj (w.heap.size + 1) (.loop (rec (if jump.isNone then .ready else .done) jump))) := ⟨_, _, hl3, rfl⟩
        refine ⟨?_, hT3.below (Nat.le_succ _), World.putObj_heap_same (Array.getElem?_eq_some_iff.1 hl3).1, (World.putObj_heap_other (by omega)).trans hk3', ?_⟩
        · rw [hrec] at hr ⊢; exact hr
        · exact (hka2.trans (hk3.mono (fun x hx => List.mem_append.2 (.inl hx))) (fun x hx _ => hx)).trans hT3.keeps (fun x hx _ => List.mem_append.2 (.inr hx))
      rintro e a3 W3 hp
      cases e with
      | normal =>
        obtain ⟨hk3, hi3⟩ := hp
        obtain ⟨hr, hb4, hl4, hk4, hkk⟩ := fin none W3 hk3
        exact ⟨_, _, hr, .inl ⟨rfl, ⟨hI _ _ _ hi3 (.of hb4), hl4, hk4⟩, hkk⟩⟩
      | ret =>
        obtain ⟨hk3, hi3⟩ := hp
        obtain ⟨hr, hb4, hl4, hk4, hkk⟩ := fin (some .ret) W3 hk3
        exact ⟨_, _, hr, .inr ⟨rfl, ⟨.ret, hIx _ _ _ _ hi3 (.of hb4), hl4, hk4⟩, hkk⟩⟩
      | exit id =>
        obtain ⟨hk3, hi3⟩ := hp
        obtain ⟨hr, hb4, hl4, hk4, hkk⟩ := fin (some (.exit id)) W3 hk3
        exact ⟨_, _, hr, .inr ⟨rfl, ⟨.exit id, hIx _ _ _ _ hi3 (.of hb4), hl4, hk4⟩, hkk⟩⟩
      | goto t =>
        obtain ⟨hk3, hi3⟩ := hp
        obtain ⟨hr, hb4, hl4, hk4, hkk⟩ := fin (some (.goto t)) W3 hk3
        exact ⟨_, _, hr, .inr ⟨rfl, ⟨.goto t, hIx _ _ _ _ hi3 (.of hb4), hl4, hk4⟩, hkk⟩⟩
      | panic ch => exact hp.elim
      | outgrown => exact hp.elim
    | exit id => exact hq.elim
    | goto t => exact hq.elim
    | ret => exact hq.elim
    | panic ch => exact hq.elim
    | outgrown => exact hq.elim
  · -- behind the iterator
    rintro e W2 ⟨⟨v, rfl⟩, (⟨xs, hS, hi, hl, hk⟩ | ⟨pre, hSp, c, hi, hl, hk⟩)⟩
    · exact ⟨none, _, by have := run_endLoop (P := P) hl (by rw [hrec]; simp); rw [hrec] at this; exact this, hdone _ xs _ (Nat.le_refl _) hS (hI _ _ _ hi (.of (turn _ hl))) ((World.putObj_heap_other (by omega)).trans hk)⟩
    · exact ⟨some c, _, by have := run_endLoop (P := P) hl (by rw [hrec]; simp); rw [hrec] at this; exact this, hstop _ c pre _ (Nat.le_refl _) hSp (hIx _ _ _ _ hi (.of (turn _ hl))) ((World.putObj_heap_other (by omega)).trans hk)⟩

/-- THE STATEMENT in the plain walk. -/
theorem range_PX0 {α : Type} {P : Program} {g : Operand} {ps : Array Tmp} {assign body : Code} {Q : Exit → Act → World → Prop} {a : Act} {w : World}
    {gf : Nat} {lb : Array Value} (hg : a.eval g = .func (.func gf) #[] lb) (eg : ∀ args w, (callFunc gf args).run P w = .ok (.enter gf args) w)
    {encs : α → Array Value} {fine : Nat → Prop} {X : List Nat} {S Sp : List α → Prop} (hseq : SeqX P gf lb encs fine X S Sp w)
    (C : List Nat) (hX : ∀ k ∈ X, k < w.heap.size) (hC : ∀ k ∈ C, k < w.heap.size ∧ fine k) (hfine : fine (w.heap.size + 1)) (hps : ∀ x, (encs x).size = ps.size)
    (I : List α → World → Prop) (Ix : Code → List α → World → Prop) (hI : ∀ s A B, I s A → BelowX X w.heap.size A B → I s B) (hIx : ∀ c s A B, Ix c s A → BelowX X w.heap.size A B → Ix c s B) (h0 : I [] w)
    (hround : ∀ (l : Nat) (pre : List α) (x : α) (W : World), w.heap.size ≤ l → l < W.heap.size → I pre W → Sp (pre ++ [x]) →
      assign.wpIn (Fence.wide.inRound l) 9 P (Exit.then (fun a' W' => Keeps W W' C ∧ ∀ W2, Turned l W' W2 → body.wpIn (Fence.wide.inRound l) 9 P (postB C I Ix (pre ++ [x]) W2) a' W2) (fun _ _ _ => False))
        { tmps := (ps.zip (encs x)).foldl (fun t (p, v) => t.setIfInBounds p v) a.tmps, defers := [] } W)
    (hdone : ∀ (D : Nat) (xs : List α) (W : World), w.heap.size ≤ D → S xs → I xs W → W.heap[D]? = some (.deferred (some [])) → Q .normal { a with defers := { target := .collected D, args := #[] } :: a.defers } W)
    (hstop : ∀ (D : Nat) (c : Code) (pre : List α) (W : World), w.heap.size ≤ D → Sp pre → Ix c pre W → W.heap[D]? = some (.deferred (some [])) → c.wp P Q { a with defers := { target := .collected D, args := #[] } :: a.defers } W) :
    (Code.rangeFunc g ps assign body).wp P Q a w :=
  (wpIn_wide (n := 9)).1 (range_BX hg eg hseq C hX hC hfine hps I Ix hI hIx h0 hround hdone (fun D c pre W h1 h2 h3 h4 => wpIn_wide.2 (hstop D c pre W h1 h2 h3 h4)))

/-- THE STATEMENT in the plain walk, where a round may be left by one break alone: both ways out come to one fact F, from which the rest goes on. -/
theorem range_PXX {α : Type} {P : Program} {g : Operand} {ps : Array Tmp} {assign body : Code} {Q : Exit → Act → World → Prop} {a : Act} {w : World}
    {gf : Nat} {lb : Array Value} (hg : a.eval g = .func (.func gf) #[] lb) (eg : ∀ args w, (callFunc gf args).run P w = .ok (.enter gf args) w)
    {encs : α → Array Value} {fine : Nat → Prop} {X : List Nat} {S Sp : List α → Prop} (hseq : SeqX P gf lb encs fine X S Sp w)
    (C : List Nat) (hX : ∀ k ∈ X, k < w.heap.size) (hC : ∀ k ∈ C, k < w.heap.size ∧ fine k) (hfine : fine (w.heap.size + 1)) (hps : ∀ x, (encs x).size = ps.size) (id : Nat)
    (I Ix : List α → World → Prop) (F : World → Prop) (hI : ∀ s A B, I s A → BelowX X w.heap.size A B → I s B) (hIx : ∀ s A B, Ix s A → BelowX X w.heap.size A B → Ix s B) (h0 : I [] w)
    (hround : ∀ (l : Nat) (pre : List α) (x : α) (W : World), w.heap.size ≤ l → l < W.heap.size → I pre W → Sp (pre ++ [x]) →
      assign.wpIn (Fence.wide.inRound l) 9 P (Exit.then (fun a' W' => Keeps W W' C ∧ ∀ W2, Turned l W' W2 → body.wpIn (Fence.wide.inRound l) 9 P (postB C I (fun c s A => c = .exit id ∧ Ix s A) (pre ++ [x]) W2) a' W2) (fun _ _ _ => False))
        { tmps := (ps.zip (encs x)).foldl (fun t (p, v) => t.setIfInBounds p v) a.tmps, defers := [] } W)
    (hdone : ∀ (xs : List α) (W : World), S xs → I xs W → F W) (hstop : ∀ (pre : List α) (W : World), Sp pre → Ix pre W → F W)
    (hex : ∀ a' W, Q .normal a' W → Q (.exit id) a' W)
    (hrest : ∀ (D : Nat) (W : World), w.heap.size ≤ D → W.heap[D]? = some (.deferred (some [])) → F W → Q .normal { a with defers := { target := .collected D, args := #[] } :: a.defers } W) :
    (Code.rangeFunc g ps assign body).wp P Q a w :=
  range_PX0 hg eg hseq C hX hC hfine hps I (fun c s A => c = .exit id ∧ Ix s A) hI (fun c s A B h hb => ⟨h.1, hIx s A B h.2 hb⟩) h0 hround
    (fun D xs W hD hS hi hK => hrest D W hD hK (hdone xs W hS hi))
    (fun D c pre W hD hS ⟨hc, hi⟩ hK => by subst hc; exact wp_exit (hex _ _ (hrest D W hD hK (hstop pre W hS hi))))
end

section
set_option linter.unusedVariables false
set_option linter.unusedSimpArgs false
open Go.RowKit

/-- The blocks U are as they were. -/
def SameAt (U : List Nat) (w w' : World) : Prop := ∀ k ∈ U, w'.heap[k]? = w.heap[k]?
theorem SameAt.refl (U : List Nat) (w : World) : SameAt U w w := fun _ _ => rfl
theorem SameAt.trans {U : List Nat} {w w' w'' : World} (h : SameAt U w w') (h' : SameAt U w' w'') : SameAt U w w'' := fun k hk => (h' k hk).trans (h k hk)
theorem SameAt.mono {U V : List Nat} {w w' : World} (h : SameAt U w w') (hs : ∀ k ∈ V, k ∈ U) : SameAt V w w' := fun k hk => h k (hs k hk)
theorem SameAt.of {U C : List Nat} {w w' : World} (h : Keeps w w' C) (hl : ∀ k ∈ U, k < w.heap.size) (hn : ∀ k ∈ U, k ∉ C) : SameAt U w w' := fun k hk => h.block k (hl k hk) (hn k hk)

/-- The iterator g (captured: lb) hands out what S says; Sp: a part of it. It changes the blocks X alone and builds none; Fx: what holds of them ahead of each round. -/
def SeqY {α : Type} (P : Program) (g : Nat) (lb : Array Value) (encs : α → Array Value) (X : List Nat) (Fx : World → Prop) (S Sp : List α → Prop) (w : World) : Prop :=
  ∀ (l : Nat) (J Jx : List α → World → Prop) (W : World), SameAt X w W →
    (∀ s A B, J s A → Keeps A B X → J s B) → (∀ s A B, Jx s A → Keeps A B X → Jx s B) →
    (∀ pre x W1, J pre W1 → Fx W1 → Sp (pre ++ [x]) → YieldAt Fence.wide 9 P l (encs x) W1 fun e W' => SameAt X W1 W' ∧
      ((e = .returned (.bool true) ∧ J (pre ++ [x]) W') ∨ (e = .returned (.bool false) ∧ Jx (pre ++ [x]) W'))) →
    J [] W →
    CallsIn Fence.wide 9 P g (#[.func (.yield l) #[] #[]] ++ lb) W fun e W' => (∃ v, e = .returned v) ∧ ((∃ xs, S xs ∧ J xs W') ∨ (∃ pre, Sp pre ∧ Jx pre W'))

/-- How a round's body may be left. -/
def postY {α : Type} (U : List Nat) (I : List α → World → Prop) (Ix : Code → List α → World → Prop) (xs : List α) (W : World) : Exit → Act → World → Prop
  | .normal, _, W' => SameAt U W W' ∧ I xs W'
  | .ret, _, W' => SameAt U W W' ∧ Ix .ret xs W'
  | .exit id, _, W' => SameAt U W W' ∧ Ix (.exit id) xs W'
  | .goto t, _, W' => SameAt U W W' ∧ Ix (.goto t) xs W'
  | .panic _, _, _ => False
  | .outgrown, _, _ => False

theorem same_put {U : List Nat} {W : World} {l : Nat} {o} (h : l ∉ U) : SameAt U W (W.putObj l o) := fun k hk => World.putObj_heap_other (fun e => h (e ▸ hk))
theorem keeps_put {W : World} {l : Nat} {o} : Keeps W (W.putObj l o) [l] := ⟨rfl, rfl, rfl, by simp, fun k _ hn => World.putObj_heap_other (by simpa using hn)⟩

/-- THE STATEMENT 'for .. := range g { .. }', outside of any round. -/
theorem range_BY {α : Type} {P : Program} {n : Nat} {g : Operand} {ps : Array Tmp} {assign body : Code} {Q : Exit → Act → World → Prop} {a : Act} {w : World}
    {gf : Nat} {lb : Array Value} (hg : a.eval g = .func (.func gf) #[] lb) (eg : ∀ args w, (callFunc gf args).run P w = .ok (.enter gf args) w)
    {encs : α → Array Value} {X : List Nat} {Fx : World → Prop} {S Sp : List α → Prop} (hseq : SeqY P gf lb encs X Fx S Sp w)
    (hX : ∀ k ∈ X, k < w.heap.size) (hps : ∀ x, (encs x).size = ps.size)
    (I : List α → World → Prop) (Ix : Code → List α → World → Prop) (hI : ∀ s A B, I s A → Keeps A B (X ++ [w.heap.size, w.heap.size + 1]) → I s B) (hIx : ∀ c s A B, Ix c s A → Keeps A B (X ++ [w.heap.size, w.heap.size + 1]) → Ix c s B) (h0 : I [] w)
    (hround : ∀ (l : Nat) (pre : List α) (x : α) (W : World), l = w.heap.size + 1 → l < W.heap.size → W.heap[w.heap.size]? = some (.deferred (some [])) → Fx W → I pre W → Sp (pre ++ [x]) →
      assign.wpIn (Fence.wide.inRound l) 9 P (Exit.then (fun a' W' => SameAt (X ++ [w.heap.size, w.heap.size + 1]) W W' ∧ ∀ W2, Turned l W' W2 → body.wpIn (Fence.wide.inRound l) 9 P (postY (X ++ [w.heap.size, w.heap.size + 1]) I Ix (pre ++ [x]) W2) a' W2) (fun _ _ _ => False))
        { tmps := (ps.zip (encs x)).foldl (fun t (p, v) => t.setIfInBounds p v) a.tmps, defers := [] } W)
    (hdone : ∀ (D : Nat) (xs : List α) (W : World), w.heap.size ≤ D → S xs → I xs W → W.heap[D]? = some (.deferred (some [])) → Q .normal { a with defers := { target := .collected D, args := #[] } :: a.defers } W)
    (hstop : ∀ (D : Nat) (c : Code) (pre : List α) (W : World), w.heap.size ≤ D → Sp pre → Ix c pre W → W.heap[D]? = some (.deferred (some [])) → c.wpIn Fence.wide n P Q { a with defers := { target := .collected D, args := #[] } :: a.defers } W) :
    (Code.rangeFunc g ps assign body).wpIn Fence.wide n P Q a w := by
  refine wpIn_rangeFunc ?_
  intro fn hfn
  obtain ⟨rec, hrec⟩ : ∃ rec : LoopState → Option Code → Loop, rec = fun st pe => { state := st, pending := pe, fn, tmps := a.tmps, params := ps, assign, body, defers := w.heap.size } := ⟨_, rfl⟩
  obtain ⟨W1, hW1⟩ : ∃ W1, (w.alloc (.deferred (some []))).alloc (.loop (rec .ready none)) = W1 := ⟨_, rfl⟩
  have hs1 : W1.heap.size = w.heap.size + 2 := by rw [← hW1]; simp
  have hB1 : Below w.heap.size w W1 := by rw [← hW1]; exact ((Below.refl _ w).alloc (Nat.le_refl _) _).alloc (by simp) _
  have hL1 : W1.heap[w.heap.size + 1]? = some (.loop (rec .ready none)) := by
    rw [← hW1]; have := World.alloc_heap_new (w.alloc (.deferred (some []))) (.loop (rec .ready none)); rwa [World.size_alloc] at this
  have hK1 : W1.heap[w.heap.size]? = some (.deferred (some [])) := by
    rw [← hW1]; exact (Below.heap_alloc _ _ _ (by simp)).trans (World.alloc_heap_new w _)
  refine ⟨w.heap.size + 1, [{ target := .collected w.heap.size, args := #[] }], W1, { target := .fn (.func gf) lb, args := #[.func (.yield (w.heap.size + 1)) #[] #[]] }, W1, gf,
    #[.func (.yield (w.heap.size + 1)) #[] #[]] ++ lb, W1, ?_, ?_, fun _ _ => trivial, ?_, fun h => by simp [Fence.wide] at h, callsIn_any (n := 9) ?_⟩
  · rw [← hW1, hrec]; exact run_enterLoop_outer _ _ _ _ _
  · simp only [resolve, hg]
    simp [go_sem]
  · simp [invoke, go_sem, eg]
  have nX : ∀ k, w.heap.size ≤ k → k ∉ X := fun k h hm => by have := hX k hm; omega
  have hU : ∀ k ∈ X, k ∈ X ++ [w.heap.size, w.heap.size + 1] := fun k hk => List.mem_append.2 (.inl hk)
  have hl' : w.heap.size + 1 ∈ X ++ [w.heap.size, w.heap.size + 1] := by simp
  have hd' : w.heap.size ∈ X ++ [w.heap.size, w.heap.size + 1] := by simp
  have stay : ∀ {A B : World} {o : Obj} {k : Nat}, A.heap[k]? = some o → w.heap.size ≤ k → Keeps A B X → B.heap[k]? = some o := fun h hk hb => (hb.block _ (Array.getElem?_eq_some_iff.1 h).1 (nX _ hk)).trans h
  refine (hseq (w.heap.size + 1)
    (fun pre W => I pre W ∧ W.heap[w.heap.size + 1]? = some (.loop (rec .ready none)) ∧ W.heap[w.heap.size]? = some (.deferred (some [])))
    (fun pre W => ∃ c, Ix c pre W ∧ W.heap[w.heap.size + 1]? = some (.loop (rec .done (some c))) ∧ W.heap[w.heap.size]? = some (.deferred (some [])))
    W1 (fun k hk => hB1.block k (hX k hk)) ?_ ?_ ?_ ⟨hI _ _ _ h0 ((Keeps.of_below hB1).mono (by simp)), hL1, hK1⟩).mono ?_
  · rintro s A B ⟨hi, hl, hk⟩ hb
    exact ⟨hI _ _ _ hi (hb.mono hU), stay hl (by omega) hb, stay hk (by omega) hb⟩
  · rintro s A B ⟨c, hi, hl, hk⟩ hb
    exact ⟨c, hIx _ _ _ _ hi (hb.mono hU), stay hl (by omega) hb, stay hk (by omega) hb⟩
  · -- one round
    rintro pre x W ⟨hi, hl, hk⟩ hfx hsp
    have hlt : w.heap.size + 1 < W.heap.size := (Array.getElem?_eq_some_iff.1 hl).1
    have hy := run_yield (P := P) (args := encs x) hl (by rw [hrec]; exact hps x)
    rw [hrec] at hy
    refine ⟨fn, _, assign, body, hy, roundIn_of_wpIn hfn (wpIn_mono (hround _ pre x W rfl hlt hk hfx hi hsp) ?_)⟩
    clear hy
    rintro e a' Wa hq
    cases e with
    | normal =>
      obtain ⟨hka, hbody⟩ := hq
      have hla := (hka _ hl').trans hl
      have hKa := (hka _ hd').trans hk
      have hlta : w.heap.size + 1 < Wa.heap.size := (Array.getElem?_eq_some_iff.1 hla).1
      refine ⟨_, run_beginRound hla (by rw [hrec]), ?_⟩
      have hT : Turned (w.heap.size + 1) Wa (Wa.putObj (w.heap.size + 1) (.loop { rec .ready none with state := .busy })) := ⟨_, _, hla, rfl⟩
      have hl2 : (Wa.putObj (w.heap.size + 1) (.loop { rec .ready none with state := .busy })).heap[w.heap.size + 1]? = some (.loop { rec .ready none with state := .busy }) := World.putObj_heap_same hlta
      have hk2 : (Wa.putObj (w.heap.size + 1) (.loop { rec .ready none with state := .busy })).heap[w.heap.size]? = some (.deferred (some [])) := (World.putObj_heap_other (by omega)).trans hKa
      have hka2 : SameAt X W (Wa.putObj (w.heap.size + 1) (.loop { rec .ready none with state := .busy })) := (hka.mono hU).trans (same_put (nX _ (by omega)))
      refine wpIn_mono (hbody _ hT) ?_
      have fin : ∀ (jump : Option Code) (W3 : World), SameAt (X ++ [w.heap.size, w.heap.size + 1]) (Wa.putObj (w.heap.size + 1) (.loop { rec .ready none with state := .busy })) W3 →
          (Instr.endRound (w.heap.size + 1) jump).run P W3 = .ok (.bool jump.isNone) (W3.putObj (w.heap.size + 1) (.loop (rec (if jump.isNone then .ready else .done) jump))) ∧
          Keeps W3 (W3.putObj (w.heap.size + 1) (.loop (rec (if jump.isNone then .ready else .done) jump))) (X ++ [w.heap.size, w.heap.size + 1]) ∧
          (W3.putObj (w.heap.size + 1) (.loop (rec (if jump.isNone then .ready else .done) jump))).heap[w.heap.size + 1]? = some (.loop (rec (if jump.isNone then .ready else .done) jump)) ∧
          (W3.putObj (w.heap.size + 1) (.loop (rec (if jump.isNone then .ready else .done) jump))).heap[w.heap.size]? = some (.deferred (some [])) ∧
          SameAt X W (W3.putObj (w.heap.size + 1) (.loop (rec (if jump.isNone then .ready else .done) jump))) := fun jump W3 hk3 => by
        have hl3 := (hk3 _ hl').trans hl2
        have hk3' := (hk3 _ hd').trans hk2
        have hr := run_endRound (P := P) jump hl3
        refine ⟨?_, keeps_put.mono (by simp), World.putObj_heap_same (Array.getElem?_eq_some_iff.1 hl3).1, (World.putObj_heap_other (by omega)).trans hk3', ?_⟩
        · rw [hrec] at hr ⊢; exact hr
        · exact (hka2.trans (hk3.mono hU)).trans (same_put (nX _ (by omega)))
      rintro e a3 W3 hp
      cases e with
      | normal =>
        obtain ⟨hk3, hi3⟩ := hp
        obtain ⟨hr, hb4, hl4, hk4, hkk⟩ := fin none W3 hk3
        exact ⟨_, _, hr, hkk, .inl ⟨rfl, hI _ _ _ hi3 hb4, hl4, hk4⟩⟩
      | ret =>
        obtain ⟨hk3, hi3⟩ := hp
        obtain ⟨hr, hb4, hl4, hk4, hkk⟩ := fin (some .ret) W3 hk3
        exact ⟨_, _, hr, hkk, .inr ⟨rfl, .ret, hIx _ _ _ _ hi3 hb4, hl4, hk4⟩⟩
      | exit id =>
        obtain ⟨hk3, hi3⟩ := hp
        obtain ⟨hr, hb4, hl4, hk4, hkk⟩ := fin (some (.exit id)) W3 hk3
        exact ⟨_, _, hr, hkk, .inr ⟨rfl, .exit id, hIx _ _ _ _ hi3 hb4, hl4, hk4⟩⟩
      | goto t =>
        obtain ⟨hk3, hi3⟩ := hp
        obtain ⟨hr, hb4, hl4, hk4, hkk⟩ := fin (some (.goto t)) W3 hk3
        exact ⟨_, _, hr, hkk, .inr ⟨rfl, .goto t, hIx _ _ _ _ hi3 hb4, hl4, hk4⟩⟩
      | panic ch => exact hp.elim
      | outgrown => exact hp.elim
    | exit id => exact hq.elim
    | goto t => exact hq.elim
    | ret => exact hq.elim
    | panic ch => exact hq.elim
    | outgrown => exact hq.elim
  · -- behind the iterator
    rintro e W2 ⟨⟨v, rfl⟩, (⟨xs, hS, hi, hl, hk⟩ | ⟨pre, hSp, c, hi, hl, hk⟩)⟩
    · exact ⟨none, _, by have := run_endLoop (P := P) hl (by rw [hrec]; simp); rw [hrec] at this; exact this, hdone _ xs _ (Nat.le_refl _) hS (hI _ _ _ hi (keeps_put.mono (by simp))) ((World.putObj_heap_other (by omega)).trans hk)⟩
    · exact ⟨some c, _, by have := run_endLoop (P := P) hl (by rw [hrec]; simp); rw [hrec] at this; exact this, hstop _ c pre _ (Nat.le_refl _) hSp (hIx _ _ _ _ hi (keeps_put.mono (by simp))) ((World.putObj_heap_other (by omega)).trans hk)⟩

/-- THE STATEMENT in the plain walk. -/
theorem range_PY0 {α : Type} {P : Program} {g : Operand} {ps : Array Tmp} {assign body : Code} {Q : Exit → Act → World → Prop} {a : Act} {w : World}
    {gf : Nat} {lb : Array Value} (hg : a.eval g = .func (.func gf) #[] lb) (eg : ∀ args w, (callFunc gf args).run P w = .ok (.enter gf args) w)
    {encs : α → Array Value} {X : List Nat} {Fx : World → Prop} {S Sp : List α → Prop} (hseq : SeqY P gf lb encs X Fx S Sp w)
    (hX : ∀ k ∈ X, k < w.heap.size) (hps : ∀ x, (encs x).size = ps.size)
    (I : List α → World → Prop) (Ix : Code → List α → World → Prop) (hI : ∀ s A B, I s A → Keeps A B (X ++ [w.heap.size, w.heap.size + 1]) → I s B) (hIx : ∀ c s A B, Ix c s A → Keeps A B (X ++ [w.heap.size, w.heap.size + 1]) → Ix c s B) (h0 : I [] w)
    (hround : ∀ (l : Nat) (pre : List α) (x : α) (W : World), l = w.heap.size + 1 → l < W.heap.size → W.heap[w.heap.size]? = some (.deferred (some [])) → Fx W → I pre W → Sp (pre ++ [x]) →
      assign.wpIn (Fence.wide.inRound l) 9 P (Exit.then (fun a' W' => SameAt (X ++ [w.heap.size, w.heap.size + 1]) W W' ∧ ∀ W2, Turned l W' W2 → body.wpIn (Fence.wide.inRound l) 9 P (postY (X ++ [w.heap.size, w.heap.size + 1]) I Ix (pre ++ [x]) W2) a' W2) (fun _ _ _ => False))
        { tmps := (ps.zip (encs x)).foldl (fun t (p, v) => t.setIfInBounds p v) a.tmps, defers := [] } W)
    (hdone : ∀ (D : Nat) (xs : List α) (W : World), w.heap.size ≤ D → S xs → I xs W → W.heap[D]? = some (.deferred (some [])) → Q .normal { a with defers := { target := .collected D, args := #[] } :: a.defers } W)
    (hstop : ∀ (D : Nat) (c : Code) (pre : List α) (W : World), w.heap.size ≤ D → Sp pre → Ix c pre W → W.heap[D]? = some (.deferred (some [])) → c.wp P Q { a with defers := { target := .collected D, args := #[] } :: a.defers } W) :
    (Code.rangeFunc g ps assign body).wp P Q a w :=
  (wpIn_wide (n := 9)).1 (range_BY hg eg hseq hX hps I Ix hI hIx h0 hround hdone (fun D c pre W h1 h2 h3 h4 => wpIn_wide.2 (hstop D c pre W h1 h2 h3 h4)))

/-- THE STATEMENT in the plain walk, where a round may be left by one break alone: both ways out come to one fact F, from which the rest goes on. -/
theorem range_PY {α : Type} {P : Program} {g : Operand} {ps : Array Tmp} {assign body : Code} {Q : Exit → Act → World → Prop} {a : Act} {w : World}
    {gf : Nat} {lb : Array Value} (hg : a.eval g = .func (.func gf) #[] lb) (eg : ∀ args w, (callFunc gf args).run P w = .ok (.enter gf args) w)
    {encs : α → Array Value} {X : List Nat} {Fx : World → Prop} {S Sp : List α → Prop} (hseq : SeqY P gf lb encs X Fx S Sp w)
    (hX : ∀ k ∈ X, k < w.heap.size) (hps : ∀ x, (encs x).size = ps.size) (id : Nat)
    (I Ix : List α → World → Prop) (F : World → Prop) (hI : ∀ s A B, I s A → Keeps A B (X ++ [w.heap.size, w.heap.size + 1]) → I s B) (hIx : ∀ s A B, Ix s A → Keeps A B (X ++ [w.heap.size, w.heap.size + 1]) → Ix s B) (h0 : I [] w)
    (hround : ∀ (l : Nat) (pre : List α) (x : α) (W : World), l = w.heap.size + 1 → l < W.heap.size → W.heap[w.heap.size]? = some (.deferred (some [])) → Fx W → I pre W → Sp (pre ++ [x]) →
      assign.wpIn (Fence.wide.inRound l) 9 P (Exit.then (fun a' W' => SameAt (X ++ [w.heap.size, w.heap.size + 1]) W W' ∧ ∀ W2, Turned l W' W2 → body.wpIn (Fence.wide.inRound l) 9 P (postY (X ++ [w.heap.size, w.heap.size + 1]) I (fun c s A => c = .exit id ∧ Ix s A) (pre ++ [x]) W2) a' W2) (fun _ _ _ => False))
        { tmps := (ps.zip (encs x)).foldl (fun t (p, v) => t.setIfInBounds p v) a.tmps, defers := [] } W)
    (hdone : ∀ (xs : List α) (W : World), S xs → I xs W → F W) (hstop : ∀ (pre : List α) (W : World), Sp pre → Ix pre W → F W)
    (hex : ∀ a' W, Q .normal a' W → Q (.exit id) a' W)
    (hrest : ∀ (D : Nat) (W : World), w.heap.size ≤ D → W.heap[D]? = some (.deferred (some [])) → F W → Q .normal { a with defers := { target := .collected D, args := #[] } :: a.defers } W) :
    (Code.rangeFunc g ps assign body).wp P Q a w :=
  range_PY0 hg eg hseq hX hps I (fun c s A => c = .exit id ∧ Ix s A) hI (fun c s A B h hb => ⟨h.1, hIx s A B h.2 hb⟩) h0 hround
    (fun D xs W hD hS hi hK => hrest D W hD hK (hdone xs W hS hi))
    (fun D c pre W hD hS ⟨hc, hi⟩ hK => by subst hc; exact wp_exit (hex _ _ (hrest D W hD hK (hstop pre W hS hi))))
end

section
set_option linter.unusedVariables false
set_option linter.unusedSimpArgs false

/-- The bytes of a varint. -/
def varI (n : Nat) : List Int := if h : n < 128 then [(n : Int)] else ((n % 128 + 128 : Nat) : Int) :: varI (n / 128)
termination_by n
decreasing_by omega
theorem varI_small {n : Nat} (h : n < 128) : varI n = [(n : Int)] := by rw [varI, dif_pos h]
theorem varI_step {n : Nat} (h : 128 ≤ n) : varI n = ((n % 128 + 128 : Nat) : Int) :: varI (n / 128) := by rw [varI, dif_neg (by omega)]
theorem varI_pos (n : Nat) : 0 < (varI n).length := by
  rw [varI]; split <;> simp
theorem varI_len (d : Nat) : ∀ n : Nat, n < 128 ^ (d + 1) → (varI n).length ≤ d + 1 := by
  induction d with
  | zero => intro n h; rw [varI_small (by simpa using h)]; simp
  | succ d ih =>
    intro n h
    by_cases hn : n < 128
    · rw [varI_small hn]; simp
    · rw [varI_step (by omega), List.length_cons]
      have := ih (n / 128) (by rw [Nat.pow_succ] at h; omega)
      omega
theorem varI_byte {n : Nat} {x : Int} (h : x ∈ varI n) : 0 ≤ x ∧ x ≤ 255 := by
  induction n using Nat.strongRecOn with
  | _ n ih =>
    by_cases hn : n < 128
    · rw [varI_small hn] at h
      rw [List.mem_singleton.1 h]; omega
    · rw [varI_step (by omega)] at h
      rcases List.mem_cons.1 h with h | h
      · rw [h]; omega
      · exact ih _ (by omega) h
end

end Go.Proofs.YtophgpnnjphnmaaGreat
