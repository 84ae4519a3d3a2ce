/-
  A range over a function whose iterator may keep cells of its own: what the iterator promises (SeqB), the law of the statement (range_B). No program is in sight here.
-/
import Derived.Test.YtogengangfohfaaGreatQ1
import Derived.RangeFuncNested
import Derived.RangeFuncBound
import Derived.RangeFuncCalls
import Derived.RangeFuncLeaves
import Derived.OwnWalkIn
import Derived.TacticsInMore
import Derived.LoopNIn
import Derived.LoopIn
import Derived.Scope
namespace Go.Proofs.YtogengangfohfaaGreat
set_option linter.unusedVariables false
set_option linter.unusedSimpArgs false
open Go.RowKit

/-- The iterator g (captured: lb) hands out what S says; Sp: a part of it. The rounds may change the blocks C, all of them older than the iterator's call and fine; the iterator changes none that is older than its call. -/
def SeqB {α : Type} (P : Program) (g : Nat) (lb : Array Value) (encs : α → Array Value) (fine : Nat → Prop) (S Sp : List α → Prop) (w : World) : Prop :=
  ∀ (l : Nat) (C : List Nat) (J Jx : List α → World → Prop) (W : World), Below w.heap.size w W → (∀ k ∈ C, k < W.heap.size ∧ fine k) →
    (∀ s A B, J s A → Below W.heap.size A B → J s B) → (∀ s A B, Jx s A → Below W.heap.size A B → Jx s B) →
    (∀ pre x W1, J pre W1 → Sp (pre ++ [x]) → YieldAt Fence.wide 9 P l (encs x) W1 fun e W' =>
      (e = .returned (.bool true) ∧ J (pre ++ [x]) W' ∧ Keeps W1 W' C) ∨ (e = .returned (.bool false) ∧ Jx (pre ++ [x]) W' ∧ Keeps W1 W' C)) →
    J [] W →
    CallsIn Fence.wide 9 P g (#[.func (.yield l) #[] #[]] ++ lb) W fun e W' => (∃ v, e = .returned v) ∧ ((∃ xs, S xs ∧ J xs W') ∨ (∃ pre, Sp pre ∧ Jx pre W'))

/-- Block l, a loop's record, has turned; nothing else. -/
def Turned (l : Nat) (W W' : World) : Prop := ∃ r r', W.heap[l]? = some (.loop r) ∧ W' = W.putObj l (.loop r')

theorem Turned.keeps {l : Nat} {W W' : World} (h : Turned l W W') : Keeps W W' [l] := by
  obtain ⟨r, r', _, rfl⟩ := h
  exact ⟨rfl, rfl, rfl, by simp, fun k _ hn => World.putObj_heap_other (by simpa using hn)⟩
theorem Turned.below {l : Nat} {W W' : World} (h : Turned l W W') {B : Nat} (hB : B ≤ l) : Below B W W' := by
  obtain ⟨r, r', _, rfl⟩ := h
  exact ⟨rfl, rfl, rfl, by simp, fun k hk => World.putObj_heap_other (by omega)⟩
theorem Turned.blk {l : Nat} {W W' : World} (h : Turned l W W') {b : Nat} {cs : Array Value} {T : TypeId} (hb : Blk W b cs T) : Blk W' b cs T := by
  obtain ⟨r, r', hr, rfl⟩ := h
  refine (World.putObj_heap_other ?_).trans hb
  intro e
  subst e
  have hb' : W.heap[b]? = some (.cells cs T (0, 0)) := hb
  rw [hr] at hb'
  cases hb'
theorem Turned.size {l : Nat} {W W' : World} (h : Turned l W W') : W'.heap.size = W.heap.size := by
  obtain ⟨r, r', _, rfl⟩ := h; simp

/-- How a round's body may be left. -/
def postB {α : Type} (C : List Nat) (I : List α → World → Prop) (Ix : Code → List α → World → Prop) (xs : List α) (W : World) : Exit → Act → World → Prop
  | .normal, _, W' => Keeps W W' C ∧ I xs W'
  | .ret, _, W' => Keeps W W' C ∧ Ix .ret xs W'
  | .exit id, _, W' => Keeps W W' C ∧ Ix (.exit id) xs W'
  | .goto t, _, W' => Keeps W W' C ∧ Ix (.goto t) xs W'
  | .panic _, _, _ => False
  | .outgrown, _, _ => False

theorem callsIn_any {n m : Nat} {P : Program} {f : FuncId} {args : Array Value} {w : World} {R : Ending → World → Prop} (h : CallsIn Fence.wide n P f args w R) : CallsIn Fence.wide m P f args w R := callsIn_wide.2 (callsIn_wide.1 h)

theorem round_any {n m : Nat} {P : Program} {l : Nat} {f : FuncId} {tmps : Array Value} {assign body : Code} {w : World} {R : Ending → World → Prop} (h : RoundIn Fence.wide n P l f tmps assign body w R) : RoundIn Fence.wide m P l f tmps assign body w R := ⟨h.1, fun c cs _ => h.2 c cs (room_wide _)⟩
/-- A round that is called in a round. -/
theorem round_in {n m : Nat} {P : Program} {l l' : Nat} {f : FuncId} {tmps : Array Value} {assign body : Code} {w : World} {R : Ending → World → Prop} (h : RoundIn Fence.wide n P l f tmps assign body w R) : RoundIn (Fence.wide.inRound l') m P l f tmps assign body w R := round_any h
theorem calls_in {n : Nat} {P : Program} {l : Nat} {f : FuncId} {args : Array Value} {w : World} {R : Ending → World → Prop} (h : Calls P f args w R) : CallsIn (Fence.wide.inRound l) n P f args w R := CallsIn.inRound l (callsIn_wide.2 h)

/-- THE STATEMENT 'for .. := range g { .. }', outside of any round. -/
theorem range_B {α : Type} {P : Program} {n : Nat} {g : Operand} {ps : Array Tmp} {assign body : Code} {Q : Exit → Act → World → Prop} {a : Act} {w : World}
    {gf : Nat} {lb : Array Value} (hg : a.eval g = .func (.func gf) #[] lb) (eg : ∀ args w, (callFunc gf args).run P w = .ok (.enter gf args) w)
    {encs : α → Array Value} {fine : Nat → Prop} {S Sp : List α → Prop} (hseq : SeqB P gf lb encs fine S Sp w)
    (C : List Nat) (hC : ∀ k ∈ C, k < w.heap.size ∧ fine k) (hfine : fine (w.heap.size + 1)) (hps : ∀ x, (encs x).size = ps.size)
    (I : List α → World → Prop) (Ix : Code → List α → World → Prop) (hI : ∀ s A B, I s A → Below w.heap.size A B → I s B) (hIx : ∀ c s A B, Ix c s A → Below w.heap.size A B → Ix c s B) (h0 : I [] w)
    (hround : ∀ (l : Nat) (pre : List α) (x : α) (W : World), w.heap.size ≤ l → l < W.heap.size → I pre W → Sp (pre ++ [x]) →
      assign.wpIn (Fence.wide.inRound l) 9 P (Exit.then (fun a' W' => Keeps W W' C ∧ ∀ W2, Turned l W' W2 → body.wpIn (Fence.wide.inRound l) 9 P (postB C I Ix (pre ++ [x]) W2) a' W2) (fun _ _ _ => False))
        { tmps := (ps.zip (encs x)).foldl (fun t (p, v) => t.setIfInBounds p v) a.tmps, defers := [] } W)
    (hdone : ∀ (D : Nat) (xs : List α) (W : World), w.heap.size ≤ D → S xs → I xs W → W.heap[D]? = some (.deferred (some [])) → Q .normal { a with defers := { target := .collected D, args := #[] } :: a.defers } W)
    (hstop : ∀ (D : Nat) (c : Code) (pre : List α) (W : World), w.heap.size ≤ D → Sp pre → Ix c pre W → W.heap[D]? = some (.deferred (some [])) → c.wpIn Fence.wide n P Q { a with defers := { target := .collected D, args := #[] } :: a.defers } W) :
    (Code.rangeFunc g ps assign body).wpIn Fence.wide n P Q a w := by
  refine wpIn_rangeFunc ?_
  intro fn hfn
  obtain ⟨rec, hrec⟩ : ∃ rec : LoopState → Option Code → Loop, rec = fun st pe => { state := st, pending := pe, fn, tmps := a.tmps, params := ps, assign, body, defers := w.heap.size } := ⟨_, rfl⟩
  obtain ⟨W1, hW1⟩ : ∃ W1, (w.alloc (.deferred (some []))).alloc (.loop (rec .ready none)) = W1 := ⟨_, rfl⟩
  have hs1 : W1.heap.size = w.heap.size + 2 := by rw [← hW1]; simp
  have hB1 : Below w.heap.size w W1 := by rw [← hW1]; exact ((Below.refl _ w).alloc (Nat.le_refl _) _).alloc (by simp) _
  have hL1 : W1.heap[w.heap.size + 1]? = some (.loop (rec .ready none)) := by
    rw [← hW1]; have := World.alloc_heap_new (w.alloc (.deferred (some []))) (.loop (rec .ready none)); rwa [World.size_alloc] at this
  have hK1 : W1.heap[w.heap.size]? = some (.deferred (some [])) := by
    rw [← hW1]; exact (Below.heap_alloc _ _ _ (by simp)).trans (World.alloc_heap_new w _)
  -- what lies older than the iterator's call is handed on by whatever the iterator does
  have turn : ∀ {A : World} {r : Loop} (r' : Loop), A.heap[w.heap.size + 1]? = some (.loop r) → Below w.heap.size A (A.putObj (w.heap.size + 1) (.loop r')) := fun r' h =>
    Turned.below ⟨_, r', h, rfl⟩ (Nat.le_succ _)
  refine ⟨w.heap.size + 1, [{ target := .collected w.heap.size, args := #[] }], W1, { target := .fn (.func gf) lb, args := #[.func (.yield (w.heap.size + 1)) #[] #[]] }, W1, gf,
    #[.func (.yield (w.heap.size + 1)) #[] #[]] ++ lb, W1, ?_, ?_, fun _ _ => trivial, ?_, fun h => by simp [Fence.wide] at h, callsIn_any (n := 9) ?_⟩
  · rw [← hW1, hrec]; exact run_enterLoop_outer _ _ _ _ _
  · simp only [resolve, hg]
    simp [go_sem]
  · simp [invoke, go_sem, eg]
  refine (hseq (w.heap.size + 1) (C ++ [w.heap.size + 1])
    (fun pre W => I pre W ∧ W.heap[w.heap.size + 1]? = some (.loop (rec .ready none)) ∧ W.heap[w.heap.size]? = some (.deferred (some [])))
    (fun pre W => ∃ c, Ix c pre W ∧ W.heap[w.heap.size + 1]? = some (.loop (rec .done (some c))) ∧ W.heap[w.heap.size]? = some (.deferred (some [])))
    W1 hB1 ?_ ?_ ?_ ?_ ⟨hI _ _ _ h0 hB1, hL1, hK1⟩).mono ?_
  · intro k hk
    rcases List.mem_append.1 hk with hk | hk
    · exact ⟨by have := (hC k hk).1; omega, (hC k hk).2⟩
    · simp at hk; subst hk; exact ⟨by omega, hfine⟩
  · rintro s A B ⟨hi, hl, hk⟩ hb
    exact ⟨hI _ _ _ hi (hb.mono (by omega)), (hb.block _ (by omega)).trans hl, (hb.block _ (by omega)).trans hk⟩
  · rintro s A B ⟨c, hi, hl, hk⟩ hb
    exact ⟨c, hIx _ _ _ _ hi (hb.mono (by omega)), (hb.block _ (by omega)).trans hl, (hb.block _ (by omega)).trans hk⟩
  · -- one round
    rintro pre x W ⟨hi, hl, hk⟩ hsp
    have hlt : w.heap.size + 1 < W.heap.size := (Array.getElem?_eq_some_iff.1 hl).1
    have hy := run_yield (P := P) (args := encs x) hl (by rw [hrec]; exact hps x)
    rw [hrec] at hy
    refine ⟨fn, _, assign, body, hy, roundIn_of_wpIn hfn (wpIn_mono (hround _ pre x W (Nat.le_succ _) hlt hi hsp) ?_)⟩
    clear hy
    rintro e a' Wa hq
    cases e with
    | normal =>
      obtain ⟨hka, hbody⟩ := hq
      have notC : ∀ k, w.heap.size ≤ k → k ∉ C := fun k h hm => by have := (hC k hm).1; omega
      have hla := (hka.block _ hlt (notC _ (by omega))).trans hl
      have hKa := (hka.block _ (by omega) (notC _ (by omega))).trans hk
      have hlta : w.heap.size + 1 < Wa.heap.size := (Array.getElem?_eq_some_iff.1 hla).1
      refine ⟨_, run_beginRound hla (by rw [hrec]), ?_⟩
      have hT : Turned (w.heap.size + 1) Wa (Wa.putObj (w.heap.size + 1) (.loop { rec .ready none with state := .busy })) := ⟨_, _, hla, rfl⟩
      have hl2 : (Wa.putObj (w.heap.size + 1) (.loop { rec .ready none with state := .busy })).heap[w.heap.size + 1]? = some (.loop { rec .ready none with state := .busy }) := World.putObj_heap_same hlta
      have hk2 : (Wa.putObj (w.heap.size + 1) (.loop { rec .ready none with state := .busy })).heap[w.heap.size]? = some (.deferred (some [])) := (World.putObj_heap_other (by omega)).trans hKa
      have hka2 : Keeps W (Wa.putObj (w.heap.size + 1) (.loop { rec .ready none with state := .busy })) (C ++ [w.heap.size + 1]) :=
        (hka.mono (fun x hx => List.mem_append.2 (.inl hx))).trans hT.keeps (fun x hx _ => List.mem_append.2 (.inr hx))
      refine wpIn_mono (hbody _ hT) ?_
      have fin : ∀ (jump : Option Code) (W3 : World), Keeps (Wa.putObj (w.heap.size + 1) (.loop { rec .ready none with state := .busy })) W3 C →
          (Instr.endRound (w.heap.size + 1) jump).run P W3 = .ok (.bool jump.isNone) (W3.putObj (w.heap.size + 1) (.loop (rec (if jump.isNone then .ready else .done) jump))) ∧
          Below w.heap.size W3 (W3.putObj (w.heap.size + 1) (.loop (rec (if jump.isNone then .ready else .done) jump))) ∧
          (W3.putObj (w.heap.size + 1) (.loop (rec (if jump.isNone then .ready else .done) jump))).heap[w.heap.size + 1]? = some (.loop (rec (if jump.isNone then .ready else .done) jump)) ∧
          (W3.putObj (w.heap.size + 1) (.loop (rec (if jump.isNone then .ready else .done) jump))).heap[w.heap.size]? = some (.deferred (some [])) ∧
          Keeps W (W3.putObj (w.heap.size + 1) (.loop (rec (if jump.isNone then .ready else .done) jump))) (C ++ [w.heap.size + 1]) := fun jump W3 hk3 => by
        have hl3 := (hk3.block _ (by simp; omega) (notC _ (by omega))).trans hl2
        have hk3' := (hk3.block _ (by simp; omega) (notC _ (by omega))).trans hk2
        have hr := run_endRound (P := P) jump hl3
        have hT3 : Turned (w.heap.size + 1) W3 (W3.putObj (w.heap.size + 1) (.loop (rec (if jump.isNone then .ready else .done) jump))) := ⟨_, _, hl3, rfl⟩
        refine ⟨?_, hT3.below (Nat.le_succ _), World.putObj_heap_same (Array.getElem?_eq_some_iff.1 hl3).1, (World.putObj_heap_other (by omega)).trans hk3', ?_⟩
        · rw [hrec] at hr ⊢; exact hr
        · exact (hka2.trans (hk3.mono (fun x hx => List.mem_append.2 (.inl hx))) (fun x hx _ => hx)).trans hT3.keeps (fun x hx _ => List.mem_append.2 (.inr hx))
      rintro e a3 W3 hp
      cases e with
      | normal =>
        obtain ⟨hk3, hi3⟩ := hp
        obtain ⟨hr, hb4, hl4, hk4, hkk⟩ := fin none W3 hk3
        exact ⟨_, _, hr, .inl ⟨rfl, ⟨hI _ _ _ hi3 hb4, hl4, hk4⟩, hkk⟩⟩
      | ret =>
        obtain ⟨hk3, hi3⟩ := hp
        obtain ⟨hr, hb4, hl4, hk4, hkk⟩ := fin (some .ret) W3 hk3
        exact ⟨_, _, hr, .inr ⟨rfl, ⟨.ret, hIx _ _ _ _ hi3 hb4, hl4, hk4⟩, hkk⟩⟩
      | exit id =>
        obtain ⟨hk3, hi3⟩ := hp
        obtain ⟨hr, hb4, hl4, hk4, hkk⟩ := fin (some (.exit id)) W3 hk3
        exact ⟨_, _, hr, .inr ⟨rfl, ⟨.exit id, hIx _ _ _ _ hi3 hb4, hl4, hk4⟩, hkk⟩⟩
      | goto t =>
        obtain ⟨hk3, hi3⟩ := hp
        obtain ⟨hr, hb4, hl4, hk4, hkk⟩ := fin (some (.goto t)) W3 hk3
        exact ⟨_, _, hr, .inr ⟨rfl, ⟨.goto t, hIx _ _ _ _ hi3 hb4, hl4, hk4⟩, hkk⟩⟩
      | panic ch => exact hp.elim
      | outgrown => exact hp.elim
    | exit id => exact hq.elim
    | goto t => exact hq.elim
    | ret => exact hq.elim
    | panic ch => exact hq.elim
    | outgrown => exact hq.elim
  · -- behind the iterator
    rintro e W2 ⟨⟨v, rfl⟩, (⟨xs, hS, hi, hl, hk⟩ | ⟨pre, hSp, c, hi, hl, hk⟩)⟩
    · exact ⟨none, _, by have := run_endLoop (P := P) hl (by rw [hrec]; simp); rw [hrec] at this; exact this, hdone _ xs _ (Nat.le_refl _) hS (hI _ _ _ hi (turn _ hl)) ((World.putObj_heap_other (by omega)).trans hk)⟩
    · exact ⟨some c, _, by have := run_endLoop (P := P) hl (by rw [hrec]; simp); rw [hrec] at this; exact this, hstop _ c pre _ (Nat.le_refl _) hSp (hIx _ _ _ _ hi (turn _ hl)) ((World.putObj_heap_other (by omega)).trans hk)⟩

/-- THE STATEMENT in the plain walk. -/
theorem range_P {α : Type} {P : Program} {g : Operand} {ps : Array Tmp} {assign body : Code} {Q : Exit → Act → World → Prop} {a : Act} {w : World}
    {gf : Nat} {lb : Array Value} (hg : a.eval g = .func (.func gf) #[] lb) (eg : ∀ args w, (callFunc gf args).run P w = .ok (.enter gf args) w)
    {encs : α → Array Value} {fine : Nat → Prop} {S Sp : List α → Prop} (hseq : SeqB P gf lb encs fine S Sp w)
    (C : List Nat) (hC : ∀ k ∈ C, k < w.heap.size ∧ fine k) (hfine : fine (w.heap.size + 1)) (hps : ∀ x, (encs x).size = ps.size)
    (I : List α → World → Prop) (Ix : Code → List α → World → Prop) (hI : ∀ s A B, I s A → Below w.heap.size A B → I s B) (hIx : ∀ c s A B, Ix c s A → Below w.heap.size A B → Ix c s B) (h0 : I [] w)
    (hround : ∀ (l : Nat) (pre : List α) (x : α) (W : World), w.heap.size ≤ l → l < W.heap.size → I pre W → Sp (pre ++ [x]) →
      assign.wpIn (Fence.wide.inRound l) 9 P (Exit.then (fun a' W' => Keeps W W' C ∧ ∀ W2, Turned l W' W2 → body.wpIn (Fence.wide.inRound l) 9 P (postB C I Ix (pre ++ [x]) W2) a' W2) (fun _ _ _ => False))
        { tmps := (ps.zip (encs x)).foldl (fun t (p, v) => t.setIfInBounds p v) a.tmps, defers := [] } W)
    (hdone : ∀ (D : Nat) (xs : List α) (W : World), w.heap.size ≤ D → S xs → I xs W → W.heap[D]? = some (.deferred (some [])) → Q .normal { a with defers := { target := .collected D, args := #[] } :: a.defers } W)
    (hstop : ∀ (D : Nat) (c : Code) (pre : List α) (W : World), w.heap.size ≤ D → Sp pre → Ix c pre W → W.heap[D]? = some (.deferred (some [])) → c.wp P Q { a with defers := { target := .collected D, args := #[] } :: a.defers } W) :
    (Code.rangeFunc g ps assign body).wp P Q a w :=
  (wpIn_wide (n := 9)).1 (range_B hg eg hseq C hC hfine hps I Ix hI hIx h0 hround hdone (fun D c pre W h1 h2 h3 h4 => wpIn_wide.2 (hstop D c pre W h1 h2 h3 h4)))

/-- THE STATEMENT in the plain walk, where a round may be left by one break alone: both ways out come to one fact F, from which the rest goes on. -/
theorem range_PX {α : Type} {P : Program} {g : Operand} {ps : Array Tmp} {assign body : Code} {Q : Exit → Act → World → Prop} {a : Act} {w : World}
    {gf : Nat} {lb : Array Value} (hg : a.eval g = .func (.func gf) #[] lb) (eg : ∀ args w, (callFunc gf args).run P w = .ok (.enter gf args) w)
    {encs : α → Array Value} {fine : Nat → Prop} {S Sp : List α → Prop} (hseq : SeqB P gf lb encs fine S Sp w)
    (C : List Nat) (hC : ∀ k ∈ C, k < w.heap.size ∧ fine k) (hfine : fine (w.heap.size + 1)) (hps : ∀ x, (encs x).size = ps.size) (id : Nat)
    (I Ix : List α → World → Prop) (F : World → Prop) (hI : ∀ s A B, I s A → Below w.heap.size A B → I s B) (hIx : ∀ s A B, Ix s A → Below w.heap.size A B → Ix s B) (h0 : I [] w)
    (hround : ∀ (l : Nat) (pre : List α) (x : α) (W : World), w.heap.size ≤ l → l < W.heap.size → I pre W → Sp (pre ++ [x]) →
      assign.wpIn (Fence.wide.inRound l) 9 P (Exit.then (fun a' W' => Keeps W W' C ∧ ∀ W2, Turned l W' W2 → body.wpIn (Fence.wide.inRound l) 9 P (postB C I (fun c s A => c = .exit id ∧ Ix s A) (pre ++ [x]) W2) a' W2) (fun _ _ _ => False))
        { tmps := (ps.zip (encs x)).foldl (fun t (p, v) => t.setIfInBounds p v) a.tmps, defers := [] } W)
    (hdone : ∀ (xs : List α) (W : World), S xs → I xs W → F W) (hstop : ∀ (pre : List α) (W : World), Sp pre → Ix pre W → F W)
    (hex : ∀ a' W, Q .normal a' W → Q (.exit id) a' W)
    (hrest : ∀ (D : Nat) (W : World), w.heap.size ≤ D → W.heap[D]? = some (.deferred (some [])) → F W → Q .normal { a with defers := { target := .collected D, args := #[] } :: a.defers } W) :
    (Code.rangeFunc g ps assign body).wp P Q a w :=
  range_P hg eg hseq C hC hfine hps I (fun c s A => c = .exit id ∧ Ix s A) hI (fun c s A B h hb => ⟨h.1, hIx s A B h.2 hb⟩) h0 hround
    (fun D xs W hD hS hi hK => hrest D W hD hK (hdone xs W hS hi))
    (fun D c pre W hD hS ⟨hc, hi⟩ hK => by subst hc; exact wp_exit (hex _ _ (hrest D W hD hK (hstop pre W hS hi))))


end Go.Proofs.YtogengangfohfaaGreat
