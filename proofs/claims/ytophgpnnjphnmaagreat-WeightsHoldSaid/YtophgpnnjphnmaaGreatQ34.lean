/-
  A range over a function whose iterator changes nothing and only reads the blocks X, which the rounds leave alone: the rounds may change all the rest. What the iterator promises (SeqZ), the law of the statement. No program is in sight here.
  What an iterator has handed out after k rounds. No program is in sight here.
  slices.Backward over numbers: its iterator's contract.
  A region that draws its order and only reads, in the round of a range over a function: one walk of the lexical order serves every order. No program is in sight here.
  A region that draws its order and calls, in the round of a range over a function, walked as ONE line of steps (Held's). No program is in sight here.
-/
import Derived.Test.YtophgpnnjphnmaaGreatQ2
import Derived.Test.YtophgpnnjphnmaaGreatQ1
import Derived.OrdersIn
namespace Go.Proofs.YtophgpnnjphnmaaGreat
section
set_option linter.unusedVariables false
set_option linter.unusedSimpArgs false
open Go.RowKit

/-- The iterator g (captured: lb) hands out what S says; Sp: a part of it. It changes nothing; the rounds leave the blocks X as they are; Fx: what holds ahead of each round. -/
def SeqZ {α : Type} (P : Program) (g : Nat) (lb : Array Value) (encs : α → Array Value) (X : List Nat) (Fx : World → Prop) (S Sp : List α → Prop) (w : World) : Prop :=
  ∀ (l : Nat) (J Jx : List α → World → Prop) (W : World), SameAt X w W →
    (∀ s A B, J s A → Keeps A B [] → J s B) → (∀ s A B, Jx s A → Keeps A B [] → Jx s B) →
    (∀ pre x W1, J pre W1 → Fx W1 → Sp (pre ++ [x]) → YieldAt Fence.wide 9 P l (encs x) W1 fun e W' => SameAt X W1 W' ∧
      ((e = .returned (.bool true) ∧ J (pre ++ [x]) W') ∨ (e = .returned (.bool false) ∧ Jx (pre ++ [x]) W'))) →
    J [] W →
    CallsIn Fence.wide 9 P g (#[.func (.yield l) #[] #[]] ++ lb) W fun e W' => (∃ v, e = .returned v) ∧ ((∃ xs, S xs ∧ J xs W') ∨ (∃ pre, Sp pre ∧ Jx pre W'))

/-- THE STATEMENT 'for .. := range g { .. }', outside of any round. -/
theorem range_BZ {α : Type} {P : Program} {n : Nat} {g : Operand} {ps : Array Tmp} {assign body : Code} {Q : Exit → Act → World → Prop} {a : Act} {w : World}
    {gf : Nat} {lb : Array Value} (hg : a.eval g = .func (.func gf) #[] lb) (eg : ∀ args w, (callFunc gf args).run P w = .ok (.enter gf args) w)
    {encs : α → Array Value} {X : List Nat} {Fx : World → Prop} {S Sp : List α → Prop} (hseq : SeqZ P gf lb encs X Fx S Sp w)
    (hX : ∀ k ∈ X, k < w.heap.size) (hps : ∀ x, (encs x).size = ps.size)
    (I : List α → World → Prop) (Ix : Code → List α → World → Prop) (hI : ∀ s A B, I s A → Keeps A B [w.heap.size, w.heap.size + 1] → I s B) (hIx : ∀ c s A B, Ix c s A → Keeps A B [w.heap.size, w.heap.size + 1] → Ix c s B) (h0 : I [] w)
    (hround : ∀ (l : Nat) (pre : List α) (x : α) (W : World), l = w.heap.size + 1 → l < W.heap.size → W.heap[w.heap.size]? = some (.deferred (some [])) → Fx W → I pre W → Sp (pre ++ [x]) →
      assign.wpIn (Fence.wide.inRound l) 9 P (Exit.then (fun a' W' => SameAt (X ++ [w.heap.size, w.heap.size + 1]) W W' ∧ ∀ W2, Turned l W' W2 → body.wpIn (Fence.wide.inRound l) 9 P (postY (X ++ [w.heap.size, w.heap.size + 1]) I Ix (pre ++ [x]) W2) a' W2) (fun _ _ _ => False))
        { tmps := (ps.zip (encs x)).foldl (fun t (p, v) => t.setIfInBounds p v) a.tmps, defers := [] } W)
    (hdone : ∀ (D : Nat) (xs : List α) (W : World), w.heap.size ≤ D → S xs → I xs W → W.heap[D]? = some (.deferred (some [])) → Q .normal { a with defers := { target := .collected D, args := #[] } :: a.defers } W)
    (hstop : ∀ (D : Nat) (c : Code) (pre : List α) (W : World), w.heap.size ≤ D → Sp pre → Ix c pre W → W.heap[D]? = some (.deferred (some [])) → c.wpIn Fence.wide n P Q { a with defers := { target := .collected D, args := #[] } :: a.defers } W) :
    (Code.rangeFunc g ps assign body).wpIn Fence.wide n P Q a w := by
  refine wpIn_rangeFunc ?_
  intro fn hfn
  obtain ⟨rec, hrec⟩ : ∃ rec : LoopState → Option Code → Loop, rec = fun st pe => { state := st, pending := pe, fn, tmps := a.tmps, params := ps, assign, body, defers := w.heap.size } := ⟨_, rfl⟩
  obtain ⟨W1, hW1⟩ : ∃ W1, (w.alloc (.deferred (some []))).alloc (.loop (rec .ready none)) = W1 := ⟨_, rfl⟩
  have hs1 : W1.heap.size = w.heap.size + 2 := by rw [← hW1]; simp
  have hB1 : Below w.heap.size w W1 := by rw [← hW1]; exact ((Below.refl _ w).alloc (Nat.le_refl _) _).alloc (by simp) _
  have hL1 : W1.heap[w.heap.size + 1]? = some (.loop (rec .ready none)) := by
    rw [← hW1]; have := World.alloc_heap_new (w.alloc (.deferred (some []))) (.loop (rec .ready none)); rwa [World.size_alloc] at this
  have hK1 : W1.heap[w.heap.size]? = some (.deferred (some [])) := by
    rw [← hW1]; exact (Below.heap_alloc _ _ _ (by simp)).trans (World.alloc_heap_new w _)
  refine ⟨w.heap.size + 1, [{ target := .collected w.heap.size, args := #[] }], W1, { target := .fn (.func gf) lb, args := #[.func (.yield (w.heap.size + 1)) #[] #[]] }, W1, gf,
    #[.func (.yield (w.heap.size + 1)) #[] #[]] ++ lb, W1, ?_, ?_, fun _ _ => trivial, ?_, fun h => by simp [Fence.wide] at h, callsIn_any (n := 9) ?_⟩
  · rw [← hW1, hrec]; exact run_enterLoop_outer _ _ _ _ _
  · simp only [resolve, hg]
    simp [go_sem]
  · simp [invoke, go_sem, eg]
  have nX : ∀ k, w.heap.size ≤ k → k ∉ X := fun k h hm => by have := hX k hm; omega
  have hU : ∀ k ∈ X, k ∈ X ++ [w.heap.size, w.heap.size + 1] := fun k hk => List.mem_append.2 (.inl hk)
  have hl' : w.heap.size + 1 ∈ X ++ [w.heap.size, w.heap.size + 1] := by simp
  have hd' : w.heap.size ∈ X ++ [w.heap.size, w.heap.size + 1] := by simp
  have stay : ∀ {A B : World} {o : Obj} {k : Nat}, A.heap[k]? = some o → w.heap.size ≤ k → Keeps A B [] → B.heap[k]? = some o := fun h hk hb => (hb.block _ (Array.getElem?_eq_some_iff.1 h).1 (by simp)).trans h
  refine (hseq (w.heap.size + 1)
    (fun pre W => I pre W ∧ W.heap[w.heap.size + 1]? = some (.loop (rec .ready none)) ∧ W.heap[w.heap.size]? = some (.deferred (some [])))
    (fun pre W => ∃ c, Ix c pre W ∧ W.heap[w.heap.size + 1]? = some (.loop (rec .done (some c))) ∧ W.heap[w.heap.size]? = some (.deferred (some [])))
    W1 (fun k hk => hB1.block k (hX k hk)) ?_ ?_ ?_ ⟨hI _ _ _ h0 ((Keeps.of_below hB1).mono (by simp)), hL1, hK1⟩).mono ?_
  · rintro s A B ⟨hi, hl, hk⟩ hb
    exact ⟨hI _ _ _ hi (hb.mono (by simp)), stay hl (by omega) hb, stay hk (by omega) hb⟩
  · rintro s A B ⟨c, hi, hl, hk⟩ hb
    exact ⟨c, hIx _ _ _ _ hi (hb.mono (by simp)), stay hl (by omega) hb, stay hk (by omega) hb⟩
  · -- one round
    rintro pre x W ⟨hi, hl, hk⟩ hfx hsp
    have hlt : w.heap.size + 1 < W.heap.size := (Array.getElem?_eq_some_iff.1 hl).1
    have hy := run_yield (P := P) (args := encs x) hl (by rw [hrec]; exact hps x)
    rw [hrec] at hy
    refine ⟨fn, _, assign, body, hy, roundIn_of_wpIn hfn (wpIn_mono (hround _ pre x W rfl hlt hk hfx hi hsp) ?_)⟩
    clear hy
    rintro e a' Wa hq
    cases e with
    | normal =>
      obtain ⟨hka, hbody⟩ := hq
      have hla := (hka _ hl').trans hl
      have hKa := (hka _ hd').trans hk
      have hlta : w.heap.size + 1 < Wa.heap.size := (Array.getElem?_eq_some_iff.1 hla).1
      refine ⟨_, run_beginRound hla (by rw [hrec]), ?_⟩
      have hT : Turned (w.heap.size + 1) Wa (Wa.putObj (w.heap.size + 1) (.loop { rec .ready none with state := .busy })) := ⟨_, _, hla, rfl⟩
      have hl2 : (Wa.putObj (w.heap.size + 1) (.loop { rec .ready none with state := .busy })).heap[w.heap.size + 1]? = some (.loop { rec .ready none with state := .busy }) := World.putObj_heap_same hlta
      have hk2 : (Wa.putObj (w.heap.size + 1) (.loop { rec .ready none with state := .busy })).heap[w.heap.size]? = some (.deferred (some [])) := (World.putObj_heap_other (by omega)).trans hKa
      have hka2 : SameAt X W (Wa.putObj (w.heap.size + 1) (.loop { rec .ready none with state := .busy })) := (hka.mono hU).trans (same_put (nX _ (by omega)))
      refine wpIn_mono (hbody _ hT) ?_
      have fin : ∀ (jump : Option Code) (W3 : World), SameAt (X ++ [w.heap.size, w.heap.size + 1]) (Wa.putObj (w.heap.size + 1) (.loop { rec .ready none with state := .busy })) W3 →
          (Instr.endRound (w.heap.size + 1) jump).run P W3 = .ok (.bool jump.isNone) (W3.putObj (w.heap.size + 1) (.loop (rec (if jump.isNone then .ready else .done) jump))) ∧
          Keeps W3 (W3.putObj (w.heap.size + 1) (.loop (rec (if jump.isNone then .ready else .done) jump))) [w.heap.size, w.heap.size + 1] ∧
          (W3.putObj (w.heap.size + 1) (.loop (rec (if jump.isNone then .ready else .done) jump))).heap[w.heap.size + 1]? = some (.loop (rec (if jump.isNone then .ready else .done) jump)) ∧
          (W3.putObj (w.heap.size + 1) (.loop (rec (if jump.isNone then .ready else .done) jump))).heap[w.heap.size]? = some (.deferred (some [])) ∧
          SameAt X W (W3.putObj (w.heap.size + 1) (.loop (rec (if jump.isNone then .ready else .done) jump))) := fun jump W3 hk3 => by
        have hl3 := (hk3 _ hl').trans hl2
        have hk3' := (hk3 _ hd').trans hk2
        have hr := run_endRound (P := P) jump hl3
        refine ⟨?_, keeps_put.mono (by simp), World.putObj_heap_same (Array.getElem?_eq_some_iff.1 hl3).1, (World.putObj_heap_other (by omega)).trans hk3', ?_⟩
        · rw [hrec] at hr ⊢; exact hr
        · exact (hka2.trans (hk3.mono hU)).trans (same_put (nX _ (by omega)))
      rintro e a3 W3 hp
      cases e with
      | normal =>
        obtain ⟨hk3, hi3⟩ := hp
        obtain ⟨hr, hb4, hl4, hk4, hkk⟩ := fin none W3 hk3
        exact ⟨_, _, hr, hkk, .inl ⟨rfl, hI _ _ _ hi3 hb4, hl4, hk4⟩⟩
      | ret =>
        obtain ⟨hk3, hi3⟩ := hp
        obtain ⟨hr, hb4, hl4, hk4, hkk⟩ := fin (some .ret) W3 hk3
        exact ⟨_, _, hr, hkk, .inr ⟨rfl, .ret, hIx _ _ _ _ hi3 hb4, hl4, hk4⟩⟩
      | exit id =>
        obtain ⟨hk3, hi3⟩ := hp
        obtain ⟨hr, hb4, hl4, hk4, hkk⟩ := fin (some (.exit id)) W3 hk3
        exact ⟨_, _, hr, hkk, .inr ⟨rfl, .exit id, hIx _ _ _ _ hi3 hb4, hl4, hk4⟩⟩
      | goto t =>
        obtain ⟨hk3, hi3⟩ := hp
        obtain ⟨hr, hb4, hl4, hk4, hkk⟩ := fin (some (.goto t)) W3 hk3
        exact ⟨_, _, hr, hkk, .inr ⟨rfl, .goto t, hIx _ _ _ _ hi3 hb4, hl4, hk4⟩⟩
      | panic ch => exact hp.elim
      | outgrown => exact hp.elim
    | exit id => exact hq.elim
    | goto t => exact hq.elim
    | ret => exact hq.elim
    | panic ch => exact hq.elim
    | outgrown => exact hq.elim
  · -- behind the iterator
    rintro e W2 ⟨⟨v, rfl⟩, (⟨xs, hS, hi, hl, hk⟩ | ⟨pre, hSp, c, hi, hl, hk⟩)⟩
    · exact ⟨none, _, by have := run_endLoop (P := P) hl (by rw [hrec]; simp); rw [hrec] at this; exact this, hdone _ xs _ (Nat.le_refl _) hS (hI _ _ _ hi (keeps_put.mono (by simp))) ((World.putObj_heap_other (by omega)).trans hk)⟩
    · exact ⟨some c, _, by have := run_endLoop (P := P) hl (by rw [hrec]; simp); rw [hrec] at this; exact this, hstop _ c pre _ (Nat.le_refl _) hSp (hIx _ _ _ _ hi (keeps_put.mono (by simp))) ((World.putObj_heap_other (by omega)).trans hk)⟩

/-- THE STATEMENT in the plain walk. -/
theorem range_PZ0 {α : Type} {P : Program} {g : Operand} {ps : Array Tmp} {assign body : Code} {Q : Exit → Act → World → Prop} {a : Act} {w : World}
    {gf : Nat} {lb : Array Value} (hg : a.eval g = .func (.func gf) #[] lb) (eg : ∀ args w, (callFunc gf args).run P w = .ok (.enter gf args) w)
    {encs : α → Array Value} {X : List Nat} {Fx : World → Prop} {S Sp : List α → Prop} (hseq : SeqZ P gf lb encs X Fx S Sp w)
    (hX : ∀ k ∈ X, k < w.heap.size) (hps : ∀ x, (encs x).size = ps.size)
    (I : List α → World → Prop) (Ix : Code → List α → World → Prop) (hI : ∀ s A B, I s A → Keeps A B [w.heap.size, w.heap.size + 1] → I s B) (hIx : ∀ c s A B, Ix c s A → Keeps A B [w.heap.size, w.heap.size + 1] → Ix c s B) (h0 : I [] w)
    (hround : ∀ (l : Nat) (pre : List α) (x : α) (W : World), l = w.heap.size + 1 → l < W.heap.size → W.heap[w.heap.size]? = some (.deferred (some [])) → Fx W → I pre W → Sp (pre ++ [x]) →
      assign.wpIn (Fence.wide.inRound l) 9 P (Exit.then (fun a' W' => SameAt (X ++ [w.heap.size, w.heap.size + 1]) W W' ∧ ∀ W2, Turned l W' W2 → body.wpIn (Fence.wide.inRound l) 9 P (postY (X ++ [w.heap.size, w.heap.size + 1]) I Ix (pre ++ [x]) W2) a' W2) (fun _ _ _ => False))
        { tmps := (ps.zip (encs x)).foldl (fun t (p, v) => t.setIfInBounds p v) a.tmps, defers := [] } W)
    (hdone : ∀ (D : Nat) (xs : List α) (W : World), w.heap.size ≤ D → S xs → I xs W → W.heap[D]? = some (.deferred (some [])) → Q .normal { a with defers := { target := .collected D, args := #[] } :: a.defers } W)
    (hstop : ∀ (D : Nat) (c : Code) (pre : List α) (W : World), w.heap.size ≤ D → Sp pre → Ix c pre W → W.heap[D]? = some (.deferred (some [])) → c.wp P Q { a with defers := { target := .collected D, args := #[] } :: a.defers } W) :
    (Code.rangeFunc g ps assign body).wp P Q a w :=
  (wpIn_wide (n := 9)).1 (range_BZ hg eg hseq hX hps I Ix hI hIx h0 hround hdone (fun D c pre W h1 h2 h3 h4 => wpIn_wide.2 (hstop D c pre W h1 h2 h3 h4)))

/-- THE STATEMENT in the plain walk, where a round may be left by one break alone: both ways out come to one fact F, from which the rest goes on. -/
theorem range_PZ {α : Type} {P : Program} {g : Operand} {ps : Array Tmp} {assign body : Code} {Q : Exit → Act → World → Prop} {a : Act} {w : World}
    {gf : Nat} {lb : Array Value} (hg : a.eval g = .func (.func gf) #[] lb) (eg : ∀ args w, (callFunc gf args).run P w = .ok (.enter gf args) w)
    {encs : α → Array Value} {X : List Nat} {Fx : World → Prop} {S Sp : List α → Prop} (hseq : SeqZ P gf lb encs X Fx S Sp w)
    (hX : ∀ k ∈ X, k < w.heap.size) (hps : ∀ x, (encs x).size = ps.size) (id : Nat)
    (I Ix : List α → World → Prop) (F : World → Prop) (hI : ∀ s A B, I s A → Keeps A B [w.heap.size, w.heap.size + 1] → I s B) (hIx : ∀ s A B, Ix s A → Keeps A B [w.heap.size, w.heap.size + 1] → Ix s B) (h0 : I [] w)
    (hround : ∀ (l : Nat) (pre : List α) (x : α) (W : World), l = w.heap.size + 1 → l < W.heap.size → W.heap[w.heap.size]? = some (.deferred (some [])) → Fx W → I pre W → Sp (pre ++ [x]) →
      assign.wpIn (Fence.wide.inRound l) 9 P (Exit.then (fun a' W' => SameAt (X ++ [w.heap.size, w.heap.size + 1]) W W' ∧ ∀ W2, Turned l W' W2 → body.wpIn (Fence.wide.inRound l) 9 P (postY (X ++ [w.heap.size, w.heap.size + 1]) I (fun c s A => c = .exit id ∧ Ix s A) (pre ++ [x]) W2) a' W2) (fun _ _ _ => False))
        { tmps := (ps.zip (encs x)).foldl (fun t (p, v) => t.setIfInBounds p v) a.tmps, defers := [] } W)
    (hdone : ∀ (xs : List α) (W : World), S xs → I xs W → F W) (hstop : ∀ (pre : List α) (W : World), Sp pre → Ix pre W → F W)
    (hex : ∀ a' W, Q .normal a' W → Q (.exit id) a' W)
    (hrest : ∀ (D : Nat) (W : World), w.heap.size ≤ D → W.heap[D]? = some (.deferred (some [])) → F W → Q .normal { a with defers := { target := .collected D, args := #[] } :: a.defers } W) :
    (Code.rangeFunc g ps assign body).wp P Q a w :=
  range_PZ0 hg eg hseq hX hps I (fun c s A => c = .exit id ∧ Ix s A) hI (fun c s A B h hb => ⟨h.1, hIx s A B h.2 hb⟩) h0 hround
    (fun D xs W hD hS hi hK => hrest D W hD hK (hdone xs W hS hi))
    (fun D c pre W hD hS ⟨hc, hi⟩ hK => by subst hc; exact wp_exit (hex _ _ (hrest D W hD hK (hstop pre W hS hi))))
end

section
set_option linter.unusedVariables false
set_option linter.unusedSimpArgs false
open Go.RowKit

/-- What has come when k rounds are over. -/
def upto {α : Type} (f : Nat → α) (k : Nat) : List α := (List.range k).map f
theorem upto_succ {α : Type} (f : Nat → α) (k : Nat) : upto f (k + 1) = upto f k ++ [f k] := by simp [upto, List.range_succ]
theorem upto_length {α : Type} (f : Nat → α) (k : Nat) : (upto f k).length = k := by simp [upto]
theorem upto_prefix {α : Type} (f : Nat → α) {k n : Nat} (h : k ≤ n) : upto f k <+: upto f n := by
  obtain ⟨m, rfl⟩ := Nat.le.dest h
  induction m with
  | zero => exact List.prefix_refl _
  | succ m ih =>
    rw [← Nat.add_assoc, upto_succ]
    exact (ih (Nat.le_add_right _ _)).trans (List.prefix_append _ _)
theorem upto_next {α : Type} {f : Nat → α} {k n : Nat} {x : α} (h : upto f k ++ [x] <+: upto f n) : k < n ∧ x = f k := by
  have hl := h.length_le
  simp only [List.length_append, upto_length, List.length_cons, List.length_nil] at hl
  refine ⟨by omega, ?_⟩
  have h2 : upto f k ++ [f k] <+: upto f n := by rw [← upto_succ]; exact upto_prefix f (by omega)
  have h3 := (List.prefix_iff_eq_take.1 h).trans ((by simp [upto_length]) : _ = List.take (upto f k ++ [f k]).length (upto f n))
  rw [← List.prefix_iff_eq_take.1 h2] at h3
  simpa using h3

theorem Turn.below {X : World} {D : Nat} {o o' : Obj} (h : X.heap[D]? = some o) {B : Nat} (hB : B ≤ D) : Below B X (X.putObj D o') :=
  ⟨rfl, rfl, rfl, by simp, fun k hk => World.putObj_heap_other (by omega)⟩
end

section
set_option linter.unusedVariables false
set_option linter.unusedSimpArgs false
open Go.RowKit

attribute [local go_sem] Oper.semAt_some

abbrev encBN (x : Nat × Int) : Array Value := #[.int .i64 (x.1 : Int), .int .i64 x.2]
def bacF (l : List Int) (j : Nat) : Nat × Int := (l.length - 1 - j, (l[l.length - 1 - j]?).getD 0)
def blkOf : Value → List Nat
  | .slice (some a) n _ => if 0 < n then [a.block] else []
  | _ => []

theorem RdI.sameB {k : IntKind} {w w' : World} {v : Value} {l : List Int} (h : RdI k w v l) (hs : SameAt (blkOf v) w w') : RdI k w' v l := by
  obtain ⟨a, n, c, rfl, h1, h2, h3⟩ := h.form
  refine ⟨a, n, c, rfl, h1, h2, fun h0 => ?_⟩
  obtain ⟨h4, b, o, rfl, h5, h6⟩ := h3 h0
  have hb : w'.heap[b]? = w.heap[b]? := hs b (by simp [blkOf, h0])
  refine ⟨h4, b, o, rfl, ?_, fun i x hx => ?_⟩
  · rw [Array.getElem?_eq_getElem h5] at hb
    exact (Array.getElem?_eq_some_iff.1 hb).1
  · exact (World.cell?_of_block (a := ⟨b, o + i, none⟩) hb).trans (h6 i x hx)

set_option maxRecDepth 100000 in
set_option maxHeartbeats 2000000 in
theorem backZ (Bs : Nat) (v : Value) (l : List Int) (w : World) (hBs : Blk w Bs #[v] 22) (hr : RdI .i64 w v l) (hn : l.length ≤ 1000000) :
    SeqZ Tryz.prog 170 #[.pointer (some ⟨Bs, 0, none⟩)] encBN ([Bs] ++ blkOf v) (fun _ => True)
      (fun ys => ys = upto (bacF l) l.length) (fun pre => pre <+: upto (bacF l) l.length) w := by
  intro lo J Jx W hW hJ hJx hY h0
  have hBs' : Blk W Bs #[v] 22 := (hW Bs (by simp)).trans hBs
  have hr' := hr.sameB (hW.mono (fun k hk => List.mem_append.2 (.inr hk)))
  obtain ⟨a, n, c, rfl, hnl, -⟩ := hr.form
  have HB := Lib.hid hBs'
  have HR := Lib.hid hr'
  have HN := Lib.hid hnl
  have HY := Lib.hid hY
  have hn' : n ≤ 1000000 := by omega
  obtain ⟨c0, -⟩ := hBs'.one
  have hwr : wrap64 ((n : Int) - 1) = (n : Int) - 1 := IntWalk.wrap64_in _ ⟨by omega, by omega⟩
  clear hBs hr hBs' hr' hnl hY hn hJ hJx hW
  refine callsIn_of_wp Tryz.func170 rfl trivial ?_ rfl
  simp only [Tryz.ntmps170, List.size_toArray, List.length_cons, List.length_nil, Nat.reduceAdd, Nat.reduceSub, Array.replicate_succ, Array.replicate_zero, List.push_toArray, List.append_toArray, List.nil_append, List.cons_append]
  gi_wp2
  gi_loopw [3] (fun i wr => ∃ k : Nat, k ≤ n ∧ i = .int .i64 ((n : Int) - 1 - (k : Int)) ∧ Hid (J (upto (bacF l) k) wr) ∧ Hid (SameAt ([Bs] ++ blkOf (.slice a n c)) W wr))
    (fun i _ => ((intOf i) + 1).toNat)
  case atStart => exact ⟨0, Nat.zero_le _, by simp, h0, SameAt.refl _ _⟩
  case round =>
    obtain ⟨k, hk, rfl, hJs, hs⟩ := hrel
    have b1 : Blk wr Bs #[.slice a n c] 22 := (hs.out Bs (by simp)).trans HB.out
    have r1 := HR.out.sameB (hs.out.mono (fun k hk => List.mem_append.2 (.inr hk)))
    obtain ⟨d0, -⟩ := b1.one
    by_cases hlt : k < n
    · obtain ⟨q, hq⟩ : ∃ q, q = n - 1 - k := ⟨_, rfl⟩
      have hqi : (n : Int) - 1 - (k : Int) = (q : Int) := by omega
      obtain ⟨x, hx⟩ : ∃ x, l[q]? = some x := ⟨_, List.getElem?_eq_getElem (by have := HN.out; omega)⟩
      obtain ⟨b, o, rfl, hb, e0⟩ := r1.at hx
      have hcap := r1.cap
      have hi : bacF l k = (q, x) := by
        have : l.length - 1 - k = q := by have := HN.out; omega
        simp [bacF, this, hx]
      have hyy := HY.out (upto (bacF l) k) (bacF l k) wr hJs.out trivial (by rw [← upto_succ]; exact upto_prefix _ (by have := HN.out; omega))
      rw [hi] at hyy
      obtain ⟨fn, tmps, assign, body, hy, hR⟩ := hyy
      dsimp only [encBN] at hy
      have hqn : (q : Int) < (n : Int) := by omega
      have hw1 : wrap64 ((q : Int) - 1) = (q : Int) - 1 := IntWalk.wrap64_in _ ⟨by omega, by omega⟩
      have HI := Lib.hid hi
      have HQ := Lib.hid hq
      rw [hqi]
      clear hx hi b1 r1 hq hqi
      gi_wp2
      refine (round_any hR).mono ?_
      rintro e W3 ⟨hk3, (⟨rfl, hJ3⟩ | ⟨rfl, hJx3⟩)⟩
      · gi_wp2
        refine ⟨⟨k + 1, by omega, ?_, ?_, hs.out.trans hk3⟩, ?_⟩
        · congr 1; have := HQ.out; omega
        · show J _ _
          rw [upto_succ, HI.out]; exact hJ3
        · simp only [intOf]; omega
      · gi_wp2
        refine bodyPost_ret (v := .tuple #[]) (by simp [results, Tryz.results170]) rfl ⟨⟨_, rfl⟩, .inr ⟨_, ?_, hJx3⟩⟩
        rw [← HI.out, ← upto_succ]
        exact upto_prefix _ (by have := HN.out; omega)
    · gi_wp2
      go_end0
      exact ⟨⟨_, rfl⟩, .inl ⟨_, by rw [show k = l.length by have := HN.out; omega], hJs.out⟩⟩
end

section
set_option linter.unusedVariables false
set_option linter.unusedSimpArgs false
open Go.RowKit

def notDefer : Op → Bool
  | .defer _ => false
  | _ => true
theorem notDefer_ne {o : Op} (h : notDefer o = true) : ∀ c, o ≠ .defer c := fun c e => by subst e; cases h
end

section
set_option linter.unusedVariables false
set_option linter.unusedSimpArgs false
open Go.RowKit

theorem rows_in {n : Nat} {P : Program} {l : Nat} {row : String} {args : Array Value} {w : World} {R : Value → World → Prop} (h : Rows P row args w R) : RowsIn (Fence.wide.inRound l) n P row args w R := fun c cs _ => by
  obtain ⟨v, w', r, s⟩ := h c cs
  exact ⟨v, w', r, stepsIn_wide.2 s⟩

theorem operIn_of_wp {l n : Nat} {P : Program} {o : Oper} {a : Act} {w : World} {K : Act → World → Prop} {Q : Exit → Act → World → Prop} (hd : notDefer o.op = true) (h : o.wp P a w K Q) : o.wpIn (Fence.wide.inRound l) n P a w K Q := by
  unfold Oper.wp at h
  unfold Oper.wpIn
  refine ⟨fun _ _ => trivial, ?_⟩
  rw [Fence.inRound_round, Oper.semAt_some l _ _ (notDefer_ne hd)]
  generalize (execOp a.eval o).run P w = r at *
  cases r with
  | ok x w' =>
    cases x <;> simp only [Oper.upon] at h <;> simp only [Oper.uponIn]
    case value u => exact h
    case skip => exact h
    case defer d => exact h
    case enter f args => exact ⟨fun h => by simp [Fence.wide] at h, calls_in h⟩
    case row row args => exact ⟨fun h => by simp [Fence.wide] at h, rows_in h⟩
  | halt x w' =>
    cases x <;> simp only [Oper.upon] at h <;> simp only [Oper.uponIn]
    case panic u => exact h

theorem wpOpIn_of_wpOp {l n i : Nat} {P : Program} {ops : Array Oper} {K : Act → World → Prop} {Q : Exit → Act → World → Prop} {a : Act} {w : World} (hd : ∀ (i : Nat) (o : Oper), ops[i]? = some o → notDefer o.op = true) (hQ : ∀ a w, ¬ Q .outgrown a w)
    (h : wpOp P ops Q i K a w) : wpOpIn (Fence.wide.inRound l) n P ops Q i K a w := by
  unfold wpOp at h
  unfold wpOpIn
  split
  · rename_i ho; simp only [ho] at h; exact h
  · rename_i o ho
    simp only [ho] at h
    split
    · rename_i hw
      simp only [hw, if_true] at h
      rcases h with h | ⟨-, a', w', h⟩
      · exact operIn_of_wp (hd i o ho) h
      · exact (hQ _ _ h).elim
    · rename_i hw; simp only [hw] at h; exact ⟨fun _ _ => trivial, h⟩

theorem wpAnyIn_of_held {l n : Nat} {P : Program} {ops : Array Oper} {md : Region.Mode} {S : World → Prop} {Q : Exit → Act → World → Prop} (hd : ∀ (i : Nat) (o : Oper), ops[i]? = some o → notDefer o.op = true) (hQ : ∀ a w, ¬ Q .outgrown a w) : ∀ (fuel : Nat) (listed : Array Bool) (a : Act) (w : World),
    wpAnyH P md ops Q S fuel listed a w → wpAnyIn (Fence.wide.inRound l) n P md ops Q fuel listed a w
  | 0, _, _, _, h => h
  | fuel + 1, _, _, _, h => ⟨h.1, fun i hi => wpOpIn_mono (fun a' w' h' => wpAnyIn_of_held hd hQ fuel _ a' w' h'.2) (wpOpIn_of_wpOp hd hQ (h.2 i hi))⟩

/-- The beginning: as wp_region_held_drew, in a round. -/
theorem region_heldR {l n : Nat} {P : Program} {id : Nat} {Q : Exit → Act → World → Prop} {a : Act} {w : World} {os : List Oper} {S : World → Prop} (hm : P.follows .mixedOrders = true) (hd : os.all (fun o : Oper => notDefer o.op) = true) (hQ : ∀ a w, ¬ Q .outgrown a w) (hS : S w.drew)
    (h : S w.drew → wpAnyH P .any os.toArray Q S os.toArray.size (Array.replicate os.toArray.size false) a w.drew) : (Code.region id os.toArray true).wpIn (Fence.wide.inRound l) n P Q a w :=
  wpIn_region_any hm (wpAnyIn_of_held (fun i o ho => by
    simp only [List.getElem?_toArray] at ho
    exact List.all_eq_true.1 hd o (List.mem_of_getElem? ho)) hQ _ _ _ _ (h hS))
end

end Go.Proofs.YtophgpnnjphnmaaGreat
