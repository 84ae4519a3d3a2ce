/-
  A range over a function whose iterator changes nothing but the blocks X that it has captured: the rounds may change all the rest. What the iterator promises (SeqY), the law of the statement. No program is in sight here.
-/
import Derived.Test.YtogengangfohfaaGreatQ5
namespace Go.Proofs.YtogengangfohfaaGreat
set_option linter.unusedVariables false
set_option linter.unusedSimpArgs false
open Go.RowKit

/-- The blocks U are as they were. -/
def SameAt (U : List Nat) (w w' : World) : Prop := ∀ k ∈ U, w'.heap[k]? = w.heap[k]?
theorem SameAt.refl (U : List Nat) (w : World) : SameAt U w w := fun _ _ => rfl
theorem SameAt.trans {U : List Nat} {w w' w'' : World} (h : SameAt U w w') (h' : SameAt U w' w'') : SameAt U w w'' := fun k hk => (h' k hk).trans (h k hk)
theorem SameAt.mono {U V : List Nat} {w w' : World} (h : SameAt U w w') (hs : ∀ k ∈ V, k ∈ U) : SameAt V w w' := fun k hk => h k (hs k hk)
theorem SameAt.of {U C : List Nat} {w w' : World} (h : Keeps w w' C) (hl : ∀ k ∈ U, k < w.heap.size) (hn : ∀ k ∈ U, k ∉ C) : SameAt U w w' := fun k hk => h.block k (hl k hk) (hn k hk)

/-- The iterator g (captured: lb) hands out what S says; Sp: a part of it. It changes the blocks X alone and builds none; Fx: what holds of them ahead of each round. -/
def SeqY {α : Type} (P : Program) (g : Nat) (lb : Array Value) (encs : α → Array Value) (X : List Nat) (Fx : World → Prop) (S Sp : List α → Prop) (w : World) : Prop :=
  ∀ (l : Nat) (J Jx : List α → World → Prop) (W : World), SameAt X w W →
    (∀ s A B, J s A → Keeps A B X → J s B) → (∀ s A B, Jx s A → Keeps A B X → Jx s B) →
    (∀ pre x W1, J pre W1 → Fx W1 → Sp (pre ++ [x]) → YieldAt Fence.wide 9 P l (encs x) W1 fun e W' => SameAt X W1 W' ∧
      ((e = .returned (.bool true) ∧ J (pre ++ [x]) W') ∨ (e = .returned (.bool false) ∧ Jx (pre ++ [x]) W'))) →
    J [] W →
    CallsIn Fence.wide 9 P g (#[.func (.yield l) #[] #[]] ++ lb) W fun e W' => (∃ v, e = .returned v) ∧ ((∃ xs, S xs ∧ J xs W') ∨ (∃ pre, Sp pre ∧ Jx pre W'))

/-- How a round's body may be left. -/
def postY {α : Type} (U : List Nat) (I : List α → World → Prop) (Ix : Code → List α → World → Prop) (xs : List α) (W : World) : Exit → Act → World → Prop
  | .normal, _, W' => SameAt U W W' ∧ I xs W'
  | .ret, _, W' => SameAt U W W' ∧ Ix .ret xs W'
  | .exit id, _, W' => SameAt U W W' ∧ Ix (.exit id) xs W'
  | .goto t, _, W' => SameAt U W W' ∧ Ix (.goto t) xs W'
  | .panic _, _, _ => False
  | .outgrown, _, _ => False

theorem same_put {U : List Nat} {W : World} {l : Nat} {o} (h : l ∉ U) : SameAt U W (W.putObj l o) := fun k hk => World.putObj_heap_other (fun e => h (e ▸ hk))
theorem keeps_put {W : World} {l : Nat} {o} : Keeps W (W.putObj l o) [l] := ⟨rfl, rfl, rfl, by simp, fun k _ hn => World.putObj_heap_other (by simpa using hn)⟩

/-- THE STATEMENT 'for .. := range g { .. }', outside of any round. -/
theorem range_BY {α : Type} {P : Program} {n : Nat} {g : Operand} {ps : Array Tmp} {assign body : Code} {Q : Exit → Act → World → Prop} {a : Act} {w : World}
    {gf : Nat} {lb : Array Value} (hg : a.eval g = .func (.func gf) #[] lb) (eg : ∀ args w, (callFunc gf args).run P w = .ok (.enter gf args) w)
    {encs : α → Array Value} {X : List Nat} {Fx : World → Prop} {S Sp : List α → Prop} (hseq : SeqY P gf lb encs X Fx S Sp w)
    (hX : ∀ k ∈ X, k < w.heap.size) (hps : ∀ x, (encs x).size = ps.size)
    (I : List α → World → Prop) (Ix : Code → List α → World → Prop) (hI : ∀ s A B, I s A → Keeps A B (X ++ [w.heap.size, w.heap.size + 1]) → I s B) (hIx : ∀ c s A B, Ix c s A → Keeps A B (X ++ [w.heap.size, w.heap.size + 1]) → Ix c s B) (h0 : I [] w)
    (hround : ∀ (l : Nat) (pre : List α) (x : α) (W : World), l = w.heap.size + 1 → l < W.heap.size → W.heap[w.heap.size]? = some (.deferred (some [])) → Fx W → I pre W → Sp (pre ++ [x]) →
      assign.wpIn (Fence.wide.inRound l) 9 P (Exit.then (fun a' W' => SameAt (X ++ [w.heap.size, w.heap.size + 1]) W W' ∧ ∀ W2, Turned l W' W2 → body.wpIn (Fence.wide.inRound l) 9 P (postY (X ++ [w.heap.size, w.heap.size + 1]) I Ix (pre ++ [x]) W2) a' W2) (fun _ _ _ => False))
        { tmps := (ps.zip (encs x)).foldl (fun t (p, v) => t.setIfInBounds p v) a.tmps, defers := [] } W)
    (hdone : ∀ (D : Nat) (xs : List α) (W : World), w.heap.size ≤ D → S xs → I xs W → W.heap[D]? = some (.deferred (some [])) → Q .normal { a with defers := { target := .collected D, args := #[] } :: a.defers } W)
    (hstop : ∀ (D : Nat) (c : Code) (pre : List α) (W : World), w.heap.size ≤ D → Sp pre → Ix c pre W → W.heap[D]? = some (.deferred (some [])) → c.wpIn Fence.wide n P Q { a with defers := { target := .collected D, args := #[] } :: a.defers } W) :
    (Code.rangeFunc g ps assign body).wpIn Fence.wide n P Q a w := by
  refine wpIn_rangeFunc ?_
  intro fn hfn
  obtain ⟨rec, hrec⟩ : ∃ rec : LoopState → Option Code → Loop, rec = fun st pe => { state := st, pending := pe, fn, tmps := a.tmps, params := ps, assign, body, defers := w.heap.size } := ⟨_, rfl⟩
  obtain ⟨W1, hW1⟩ : ∃ W1, (w.alloc (.deferred (some []))).alloc (.loop (rec .ready none)) = W1 := ⟨_, rfl⟩
  have hs1 : W1.heap.size = w.heap.size + 2 := by rw [← hW1]; simp
  have hB1 : Below w.heap.size w W1 := by rw [← hW1]; exact ((Below.refl _ w).alloc (Nat.le_refl _) _).alloc (by simp) _
  have hL1 : W1.heap[w.heap.size + 1]? = some (.loop (rec .ready none)) := by
    rw [← hW1]; have := World.alloc_heap_new (w.alloc (.deferred (some []))) (.loop (rec .ready none)); rwa [World.size_alloc] at this
  have hK1 : W1.heap[w.heap.size]? = some (.deferred (some [])) := by
    rw [← hW1]; exact (Below.heap_alloc _ _ _ (by simp)).trans (World.alloc_heap_new w _)
  refine ⟨w.heap.size + 1, [{ target := .collected w.heap.size, args := #[] }], W1, { target := .fn (.func gf) lb, args := #[.func (.yield (w.heap.size + 1)) #[] #[]] }, W1, gf,
    #[.func (.yield (w.heap.size + 1)) #[] #[]] ++ lb, W1, ?_, ?_, fun _ _ => trivial, ?_, fun h => by simp [Fence.wide] at h, callsIn_any (n := 9) ?_⟩
  · rw [← hW1, hrec]; exact run_enterLoop_outer _ _ _ _ _
  · simp only [resolve, hg]
    simp [go_sem]
  · simp [invoke, go_sem, eg]
  have nX : ∀ k, w.heap.size ≤ k → k ∉ X := fun k h hm => by have := hX k hm; omega
  have hU : ∀ k ∈ X, k ∈ X ++ [w.heap.size, w.heap.size + 1] := fun k hk => List.mem_append.2 (.inl hk)
  have hl' : w.heap.size + 1 ∈ X ++ [w.heap.size, w.heap.size + 1] := by simp
  have hd' : w.heap.size ∈ X ++ [w.heap.size, w.heap.size + 1] := by simp
  have stay : ∀ {A B : World} {o : Obj} {k : Nat}, A.heap[k]? = some o → w.heap.size ≤ k → Keeps A B X → B.heap[k]? = some o := fun h hk hb => (hb.block _ (Array.getElem?_eq_some_iff.1 h).1 (nX _ hk)).trans h
  refine (hseq (w.heap.size + 1)
    (fun pre W => I pre W ∧ W.heap[w.heap.size + 1]? = some (.loop (rec .ready none)) ∧ W.heap[w.heap.size]? = some (.deferred (some [])))
    (fun pre W => ∃ c, Ix c pre W ∧ W.heap[w.heap.size + 1]? = some (.loop (rec .done (some c))) ∧ W.heap[w.heap.size]? = some (.deferred (some [])))
    W1 (fun k hk => hB1.block k (hX k hk)) ?_ ?_ ?_ ⟨hI _ _ _ h0 ((Keeps.of_below hB1).mono (by simp)), hL1, hK1⟩).mono ?_
  · rintro s A B ⟨hi, hl, hk⟩ hb
    exact ⟨hI _ _ _ hi (hb.mono hU), stay hl (by omega) hb, stay hk (by omega) hb⟩
  · rintro s A B ⟨c, hi, hl, hk⟩ hb
    exact ⟨c, hIx _ _ _ _ hi (hb.mono hU), stay hl (by omega) hb, stay hk (by omega) hb⟩
  · -- one round
    rintro pre x W ⟨hi, hl, hk⟩ hfx hsp
    have hlt : w.heap.size + 1 < W.heap.size := (Array.getElem?_eq_some_iff.1 hl).1
    have hy := run_yield (P := P) (args := encs x) hl (by rw [hrec]; exact hps x)
    rw [hrec] at hy
    refine ⟨fn, _, assign, body, hy, roundIn_of_wpIn hfn (wpIn_mono (hround _ pre x W rfl hlt hk hfx hi hsp) ?_)⟩
    clear hy
    rintro e a' Wa hq
    cases e with
    | normal =>
      obtain ⟨hka, hbody⟩ := hq
      have hla := (hka _ hl').trans hl
      have hKa := (hka _ hd').trans hk
      have hlta : w.heap.size + 1 < Wa.heap.size := (Array.getElem?_eq_some_iff.1 hla).1
      refine ⟨_, run_beginRound hla (by rw [hrec]), ?_⟩
      have hT : Turned (w.heap.size + 1) Wa (Wa.putObj (w.heap.size + 1) (.loop { rec .ready none with state := .busy })) := ⟨_, _, hla, rfl⟩
      have hl2 : (Wa.putObj (w.heap.size + 1) (.loop { rec .ready none with state := .busy })).heap[w.heap.size + 1]? = some (.loop { rec .ready none with state := .busy }) := World.putObj_heap_same hlta
      have hk2 : (Wa.putObj (w.heap.size + 1) (.loop { rec .ready none with state := .busy })).heap[w.heap.size]? = some (.deferred (some [])) := (World.putObj_heap_other (by omega)).trans hKa
      have hka2 : SameAt X W (Wa.putObj (w.heap.size + 1) (.loop { rec .ready none with state := .busy })) := (hka.mono hU).trans (same_put (nX _ (by omega)))
      refine wpIn_mono (hbody _ hT) ?_
      have fin : ∀ (jump : Option Code) (W3 : World), SameAt (X ++ [w.heap.size, w.heap.size + 1]) (Wa.putObj (w.heap.size + 1) (.loop { rec .ready none with state := .busy })) W3 →
          (Instr.endRound (w.heap.size + 1) jump).run P W3 = .ok (.bool jump.isNone) (W3.putObj (w.heap.size + 1) (.loop (rec (if jump.isNone then .ready else .done) jump))) ∧
          Keeps W3 (W3.putObj (w.heap.size + 1) (.loop (rec (if jump.isNone then .ready else .done) jump))) (X ++ [w.heap.size, w.heap.size + 1]) ∧
          (W3.putObj (w.heap.size + 1) (.loop (rec (if jump.isNone then .ready else .done) jump))).heap[w.heap.size + 1]? = some (.loop (rec (if jump.isNone then .ready else .done) jump)) ∧
          (W3.putObj (w.heap.size + 1) (.loop (rec (if jump.isNone then .ready else .done) jump))).heap[w.heap.size]? = some (.deferred (some [])) ∧
          SameAt X W (W3.putObj (w.heap.size + 1) (.loop (rec (if jump.isNone then .ready else .done) jump))) := fun jump W3 hk3 => by
        have hl3 := (hk3 _ hl').trans hl2
        have hk3' := (hk3 _ hd').trans hk2
        have hr := run_endRound (P := P) jump hl3
        refine ⟨?_, keeps_put.mono (by simp), World.putObj_heap_same (Array.getElem?_eq_some_iff.1 hl3).1, (World.putObj_heap_other (by omega)).trans hk3', ?_⟩
        · rw [hrec] at hr ⊢; exact hr
        · exact (hka2.trans (hk3.mono hU)).trans (same_put (nX _ (by omega)))
      rintro e a3 W3 hp
      cases e with
      | normal =>
        obtain ⟨hk3, hi3⟩ := hp
        obtain ⟨hr, hb4, hl4, hk4, hkk⟩ := fin none W3 hk3
        exact ⟨_, _, hr, hkk, .inl ⟨rfl, hI _ _ _ hi3 hb4, hl4, hk4⟩⟩
      | ret =>
        obtain ⟨hk3, hi3⟩ := hp
        obtain ⟨hr, hb4, hl4, hk4, hkk⟩ := fin (some .ret) W3 hk3
        exact ⟨_, _, hr, hkk, .inr ⟨rfl, .ret, hIx _ _ _ _ hi3 hb4, hl4, hk4⟩⟩
      | exit id =>
        obtain ⟨hk3, hi3⟩ := hp
        obtain ⟨hr, hb4, hl4, hk4, hkk⟩ := fin (some (.exit id)) W3 hk3
        exact ⟨_, _, hr, hkk, .inr ⟨rfl, .exit id, hIx _ _ _ _ hi3 hb4, hl4, hk4⟩⟩
      | goto t =>
        obtain ⟨hk3, hi3⟩ := hp
        obtain ⟨hr, hb4, hl4, hk4, hkk⟩ := fin (some (.goto t)) W3 hk3
        exact ⟨_, _, hr, hkk, .inr ⟨rfl, .goto t, hIx _ _ _ _ hi3 hb4, hl4, hk4⟩⟩
      | panic ch => exact hp.elim
      | outgrown => exact hp.elim
    | exit id => exact hq.elim
    | goto t => exact hq.elim
    | ret => exact hq.elim
    | panic ch => exact hq.elim
    | outgrown => exact hq.elim
  · -- behind the iterator
    rintro e W2 ⟨⟨v, rfl⟩, (⟨xs, hS, hi, hl, hk⟩ | ⟨pre, hSp, c, hi, hl, hk⟩)⟩
    · exact ⟨none, _, by have := run_endLoop (P := P) hl (by rw [hrec]; simp); rw [hrec] at this; exact this, hdone _ xs _ (Nat.le_refl _) hS (hI _ _ _ hi (keeps_put.mono (by simp))) ((World.putObj_heap_other (by omega)).trans hk)⟩
    · exact ⟨some c, _, by have := run_endLoop (P := P) hl (by rw [hrec]; simp); rw [hrec] at this; exact this, hstop _ c pre _ (Nat.le_refl _) hSp (hIx _ _ _ _ hi (keeps_put.mono (by simp))) ((World.putObj_heap_other (by omega)).trans hk)⟩

/-- THE STATEMENT in the plain walk. -/
theorem range_PY0 {α : Type} {P : Program} {g : Operand} {ps : Array Tmp} {assign body : Code} {Q : Exit → Act → World → Prop} {a : Act} {w : World}
    {gf : Nat} {lb : Array Value} (hg : a.eval g = .func (.func gf) #[] lb) (eg : ∀ args w, (callFunc gf args).run P w = .ok (.enter gf args) w)
    {encs : α → Array Value} {X : List Nat} {Fx : World → Prop} {S Sp : List α → Prop} (hseq : SeqY P gf lb encs X Fx S Sp w)
    (hX : ∀ k ∈ X, k < w.heap.size) (hps : ∀ x, (encs x).size = ps.size)
    (I : List α → World → Prop) (Ix : Code → List α → World → Prop) (hI : ∀ s A B, I s A → Keeps A B (X ++ [w.heap.size, w.heap.size + 1]) → I s B) (hIx : ∀ c s A B, Ix c s A → Keeps A B (X ++ [w.heap.size, w.heap.size + 1]) → Ix c s B) (h0 : I [] w)
    (hround : ∀ (l : Nat) (pre : List α) (x : α) (W : World), l = w.heap.size + 1 → l < W.heap.size → W.heap[w.heap.size]? = some (.deferred (some [])) → Fx W → I pre W → Sp (pre ++ [x]) →
      assign.wpIn (Fence.wide.inRound l) 9 P (Exit.then (fun a' W' => SameAt (X ++ [w.heap.size, w.heap.size + 1]) W W' ∧ ∀ W2, Turned l W' W2 → body.wpIn (Fence.wide.inRound l) 9 P (postY (X ++ [w.heap.size, w.heap.size + 1]) I Ix (pre ++ [x]) W2) a' W2) (fun _ _ _ => False))
        { tmps := (ps.zip (encs x)).foldl (fun t (p, v) => t.setIfInBounds p v) a.tmps, defers := [] } W)
    (hdone : ∀ (D : Nat) (xs : List α) (W : World), w.heap.size ≤ D → S xs → I xs W → W.heap[D]? = some (.deferred (some [])) → Q .normal { a with defers := { target := .collected D, args := #[] } :: a.defers } W)
    (hstop : ∀ (D : Nat) (c : Code) (pre : List α) (W : World), w.heap.size ≤ D → Sp pre → Ix c pre W → W.heap[D]? = some (.deferred (some [])) → c.wp P Q { a with defers := { target := .collected D, args := #[] } :: a.defers } W) :
    (Code.rangeFunc g ps assign body).wp P Q a w :=
  (wpIn_wide (n := 9)).1 (range_BY hg eg hseq hX hps I Ix hI hIx h0 hround hdone (fun D c pre W h1 h2 h3 h4 => wpIn_wide.2 (hstop D c pre W h1 h2 h3 h4)))

/-- THE STATEMENT in the plain walk, where a round may be left by one break alone: both ways out come to one fact F, from which the rest goes on. -/
theorem range_PY {α : Type} {P : Program} {g : Operand} {ps : Array Tmp} {assign body : Code} {Q : Exit → Act → World → Prop} {a : Act} {w : World}
    {gf : Nat} {lb : Array Value} (hg : a.eval g = .func (.func gf) #[] lb) (eg : ∀ args w, (callFunc gf args).run P w = .ok (.enter gf args) w)
    {encs : α → Array Value} {X : List Nat} {Fx : World → Prop} {S Sp : List α → Prop} (hseq : SeqY P gf lb encs X Fx S Sp w)
    (hX : ∀ k ∈ X, k < w.heap.size) (hps : ∀ x, (encs x).size = ps.size) (id : Nat)
    (I Ix : List α → World → Prop) (F : World → Prop) (hI : ∀ s A B, I s A → Keeps A B (X ++ [w.heap.size, w.heap.size + 1]) → I s B) (hIx : ∀ s A B, Ix s A → Keeps A B (X ++ [w.heap.size, w.heap.size + 1]) → Ix s B) (h0 : I [] w)
    (hround : ∀ (l : Nat) (pre : List α) (x : α) (W : World), l = w.heap.size + 1 → l < W.heap.size → W.heap[w.heap.size]? = some (.deferred (some [])) → Fx W → I pre W → Sp (pre ++ [x]) →
      assign.wpIn (Fence.wide.inRound l) 9 P (Exit.then (fun a' W' => SameAt (X ++ [w.heap.size, w.heap.size + 1]) W W' ∧ ∀ W2, Turned l W' W2 → body.wpIn (Fence.wide.inRound l) 9 P (postY (X ++ [w.heap.size, w.heap.size + 1]) I (fun c s A => c = .exit id ∧ Ix s A) (pre ++ [x]) W2) a' W2) (fun _ _ _ => False))
        { tmps := (ps.zip (encs x)).foldl (fun t (p, v) => t.setIfInBounds p v) a.tmps, defers := [] } W)
    (hdone : ∀ (xs : List α) (W : World), S xs → I xs W → F W) (hstop : ∀ (pre : List α) (W : World), Sp pre → Ix pre W → F W)
    (hex : ∀ a' W, Q .normal a' W → Q (.exit id) a' W)
    (hrest : ∀ (D : Nat) (W : World), w.heap.size ≤ D → W.heap[D]? = some (.deferred (some [])) → F W → Q .normal { a with defers := { target := .collected D, args := #[] } :: a.defers } W) :
    (Code.rangeFunc g ps assign body).wp P Q a w :=
  range_PY0 hg eg hseq hX hps I (fun c s A => c = .exit id ∧ Ix s A) hI (fun c s A B h hb => ⟨h.1, hIx s A B h.2 hb⟩) h0 hround
    (fun D xs W hD hS hi hK => hrest D W hD hK (hdone xs W hS hi))
    (fun D c pre W hD hS ⟨hc, hi⟩ hK => by subst hc; exact wp_exit (hex _ _ (hrest D W hD hK (hstop pre W hS hi))))


end Go.Proofs.YtogengangfohfaaGreat
