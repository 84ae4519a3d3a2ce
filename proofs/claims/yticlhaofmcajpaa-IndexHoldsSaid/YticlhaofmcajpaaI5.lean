/-
  The parts of an index in memory and what each store does to them. No walk is done here.
-/
import Derived.Test.YticlhaofmcajpaaI4
import Derived.Test.YticlhaofmcajpaaAq
import Derived.Maps.AppendAt
namespace Go.Proofs.Yticlhaofmcajpaa
set_option linter.unusedVariables false
set_option linter.unusedSimpArgs false
set_option linter.unusedSectionVars false
open Go.RowKit

/-- append of a slice of numbers, nil or not, to a slice of the call's own: with the place of what comes back. -/
theorem wpList_appendJ {P : Program} {w : World} {ops : Array Oper} {rest : List Oper} {o : Oper} {a : Act} {Q : Exit → Act → World → Prop} (hgd : o.guard = none) (s x : Operand) (t : TypeId)
    (ho : o.op = .call { callee := .builtin .append, args := #[s, x], argTypes := #[t, t] })
    (base : Nat) (e : TypeId) (i : TypeInfo) (z : Value) (bytes : Nat) (ht : P.underlying t = some (.slice e)) (hi : P.info? e = some i) (hz : i.zero = some z)
    (hsize : i.size = 1) (hby : i.bytes = bytes) (hzs : z.cells.size = 1)
    (v : Value) (n : Nat) (xs : List Value) (hs : a.eval s = v) (hown : w.ownsRow base e 1 v n xs) (vx : Value) (hx : a.eval x = vx) (k : IntKind) (l : List Int) (hv : RdI k w vx l)
    (h63 : n + l.length ≤ maxLen) (hbytes : (n + l.length) * bytes ≤ 140737488355328) (hbase : base ≤ w.heap.size)
    (h : ∀ v' w', w'.ownsRow base e 1 v' (n + l.length) (xs ++ l.map (Value.int k)) → w.grownBy w' v.ownBlock → (v'.ownBlock = v.ownBlock ∨ v'.ownBlock = some w.heap.size) → wpList P ops Q rest (a.put o.dst v') w') : wpList P ops Q (o :: rest) a w := by
  obtain ⟨A0, m, cp, rfl, hm, -⟩ := hv.form
  cases A0 with
  | none =>
    obtain ⟨rfl, rfl, rfl⟩ := hv.nilcap
    exact wpList_append_own_none hgd s x t ho base e i 1 ht hi v n xs hs hown hx (h v w (by simpa using hown) (grown_refl _ _) (.inl rfl))
  | some ad =>
    subst hm
    exact wpList_append_own_at w hgd s x t ho base e i z 1 bytes ht hi hz hsize hby hzs (by decide) v n xs hs hown ad l.length cp (l.map (Value.int k)) hx (by simp) hv.news (nums_one k l) h63 hbytes hbase
      (fun v' w' h1 h2 h3 h4 => h v' w' h1 h2 h4)

/-- The parts of an index: n positions stand in the row of previous ones, nl in the map of last ones, nc in the map of counts. -/
structure Parts (w : World) (p K : Nat) (B : List Int) (n nl nc : Nat) (vb vp : Value) (L C : Nat) : Prop where
  nd : (p :: L :: C :: (vb.ownBlock.toList ++ vp.ownBlock.toList)).Nodup
  blk : Blk w p #[vb, .int .i64 (K : Int), .map (some L), .map (some C), vp] 62
  ob : w.ownsRow 0 5 1 vb B.length (B.map (.int .u8))
  ov : w.ownsRow 0 3 1 vp n ((prevL K B n).map (.int .i64))
  mL : MapF w L nl (lastN K B nl)
  mC : MapF w C nc (cntN K B nc)

theorem IdxN.parts {w : World} {p K n : Nat} {B : List Int} {S : List Nat} (h : IdxN w p K B n S) : ∃ vb vp L C, S = p :: L :: C :: (vb.ownBlock.toList ++ vp.ownBlock.toList) ∧ Parts w p K B n n n vb vp L C := by
  obtain ⟨vb, vp, L, C, h1, h2, h3, h4, h5, h6, h7⟩ := h
  exact ⟨vb, vp, L, C, h1, h1 ▸ h2, h3, h4, h5, h6, h7⟩
theorem Parts.idx {w : World} {p K n : Nat} {B : List Int} {vb vp : Value} {L C : Nat} (h : Parts w p K B n n n vb vp L C) : IdxN w p K B n (p :: L :: C :: (vb.ownBlock.toList ++ vp.ownBlock.toList)) :=
  ⟨vb, vp, L, C, rfl, h.nd, h.blk, h.ob, h.ov, h.mL, h.mC⟩

section
variable {w w' w1 : World} {p K n nl nc L C : Nat} {B b : List Int} {vb vp vb' vp' : Value} {S : List Nat}

theorem Parts.nn (h : Parts w p K B n nl nc vb vp L C) : p ≠ L ∧ p ≠ C ∧ L ≠ C ∧ (∀ x, vb.ownBlock = some x → x ≠ p ∧ x ≠ L ∧ x ≠ C) ∧ (∀ x, vp.ownBlock = some x → x ≠ p ∧ x ≠ L ∧ x ≠ C) ∧ (∀ x, vb.ownBlock = some x → vp.ownBlock ≠ some x) := by
  have h0 := h.nd
  simp only [List.nodup_cons, List.mem_cons, List.mem_append, Option.mem_toList, not_or, List.nodup_append] at h0
  obtain ⟨⟨h1, h2, h3, h4⟩, ⟨h5, h6, h7⟩, ⟨h8, h9⟩, -, -, h10⟩ := h0
  refine ⟨h1, h2, h5, fun x hx => ⟨?_, ?_, ?_⟩, fun x hx => ⟨?_, ?_, ?_⟩, fun x hx hx2 => ?_⟩
  · rintro rfl; exact h3 hx
  · rintro rfl; exact h6 hx
  · rintro rfl; exact h8 hx
  · rintro rfl; exact h4 hx
  · rintro rfl; exact h7 hx
  · rintro rfl; exact h9 hx
  · exact h10 x hx x hx2 rfl

theorem Parts.lts (h : Parts w p K B n nl nc vb vp L C) : p < w.heap.size ∧ L < w.heap.size ∧ C < w.heap.size ∧ (∀ x, vb.ownBlock = some x → x < w.heap.size) ∧ (∀ x, vp.ownBlock = some x → x < w.heap.size) :=
  ⟨h.blk.lt, h.mL.lt, h.mC.lt, fun x hx => (h.ob.lt x hx).2, fun x hx => (h.ov.lt x hx).2⟩

theorem Parts.keeps (h : Parts w p K B n nl nc vb vp L C) (k : Keeps w w' []) : Parts w' p K B n nl nc vb vp L C :=
  ⟨h.nd, h.blk.keeps k (by simp), own_keeps h.ob k, own_keeps h.ov k, h.mL.keeps k (by simp), h.mC.keeps k (by simp)⟩

theorem nodup_parts {p L C : Nat} {ob ov : Option Nat} (h1 : p ≠ L) (h2 : p ≠ C) (h3 : L ≠ C) (h4 : ∀ x, ob = some x → x ≠ p ∧ x ≠ L ∧ x ≠ C) (h5 : ∀ x, ov = some x → x ≠ p ∧ x ≠ L ∧ x ≠ C) (h6 : ∀ x, ob = some x → ov ≠ some x) :
    (p :: L :: C :: (ob.toList ++ ov.toList)).Nodup := by
  cases ob with
  | none =>
    cases ov with
    | none => simp; exact ⟨⟨h1, h2⟩, h3⟩
    | some y =>
      obtain ⟨a, b, c⟩ := h5 y rfl
      simp
      exact ⟨⟨h1, h2, fun e => a e.symm⟩, ⟨h3, fun e => b e.symm⟩, fun e => c e.symm⟩
  | some x =>
    obtain ⟨a, b, c⟩ := h4 x rfl
    cases ov with
    | none =>
      simp
      exact ⟨⟨h1, h2, fun e => a e.symm⟩, ⟨h3, fun e => b e.symm⟩, fun e => c e.symm⟩
    | some y =>
      obtain ⟨a', b', c'⟩ := h5 y rfl
      have := h6 x rfl
      simp only [Option.toList_some, List.singleton_append, List.nodup_cons, List.mem_cons, List.not_mem_nil, or_false, not_or, not_false_eq_true, List.nodup_nil, and_true]
      exact ⟨⟨h1, h2, fun e => a e.symm, fun e => a' e.symm⟩, ⟨h3, fun e => b e.symm, fun e => b' e.symm⟩, ⟨fun e => c e.symm, fun e => c' e.symm⟩, fun e => this (by rw [e])⟩

/-- Bytes have been appended and the field stored. -/
theorem Parts.bytes (h : Parts w p K B n nl nc vb vp L C) (hK : 1 ≤ K) (hn : n ≤ nk K B) (hnl : nl ≤ nk K B) (hnc : nc ≤ nk K B)
    (own : w1.ownsRow 0 5 1 vb' (B.length + b.length) (B.map (.int .u8) ++ b.map (.int .u8))) (hg : w.grownBy w1 vb.ownBlock) (hat : vb'.ownBlock = vb.ownBlock ∨ vb'.ownBlock = some w.heap.size) :
    Parts (w1.setCell ⟨p, 0, none⟩ vb') p K (B ++ b) n nl nc vb' vp L C ∧ Keeps w (w1.setCell ⟨p, 0, none⟩ vb') (p :: vb.ownBlock.toList) := by
  obtain ⟨q1, q2, q3, q4, q5, q6⟩ := h.nn
  obtain ⟨l1, l2, l3, l4, l5⟩ := h.lts
  have hk : Keeps w w1 vb.ownBlock.toList := Keeps.of_grown hg (fun x hx => by simp [hx])
  have nob : ∀ x, x ∈ vb.ownBlock.toList ↔ vb.ownBlock = some x := fun x => by simp
  have hk2 : Keeps w (w1.setCell ⟨p, 0, none⟩ vb') (p :: vb.ownBlock.toList) := (hk.mono (fun x hx => by simp [hx])).setCell (a := ⟨p, 0, none⟩) (.inr (by simp)) _
  have hb1 := h.blk.keeps hk (fun hm => (q4 p ((nob p).1 hm)).1 rfl)
  have hvp : ∀ x, vp.ownBlock = some x → x ∉ p :: vb.ownBlock.toList := fun x hx hm => by
    rcases List.mem_cons.1 hm with rfl | hm
    · exact (q5 x hx).1 rfl
    · exact q6 x ((nob x).1 hm) hx
  have hvb' : ∀ x, vb'.ownBlock = some x → x ≠ p ∧ x ≠ L ∧ x ≠ C ∧ vp.ownBlock ≠ some x := fun x hx => by
    rcases hat with e | e
    · rw [e] at hx
      exact ⟨(q4 x hx).1, (q4 x hx).2.1, (q4 x hx).2.2, q6 x hx⟩
    · rw [e] at hx
      have : x = w.heap.size := (Option.some.inj hx).symm
      exact ⟨by omega, by omega, by omega, fun hx2 => by have := l5 x hx2; omega⟩
  refine ⟨⟨nodup_parts q1 q2 q3 (fun x hx => ⟨(hvb' x hx).1, (hvb' x hx).2.1, (hvb' x hx).2.2.1⟩) q5 (fun x hx => (hvb' x hx).2.2.2), ?_, ?_, ?_, ?_, ?_⟩, hk2⟩
  · exact hb1.set 0 vb'
  · rw [List.length_append, List.map_append]
    exact own_setCell own (fun e => (hvb' p e).1 rfl) _
  · rw [prevL_append hK hn]
    exact own_keepsS h.ov hk2 hvp
  · rw [lastN_append hK hnl]
    exact h.mL.keeps hk2 (fun hm => by rcases List.mem_cons.1 hm with e | hm; exact q1 e.symm; exact (q4 L ((nob L).1 hm)).2.1 rfl)
  · rw [cntN_append hK hnc]
    exact h.mC.keeps hk2 (fun hm => by rcases List.mem_cons.1 hm with e | hm; exact q2 e.symm; exact (q4 C ((nob C).1 hm)).2.2 rfl)

/-- A previous position has been appended and the field stored. -/
theorem Parts.prev (h : Parts w p K B n nl nc vb vp L C)
    (own : w1.ownsRow 0 3 1 vp' (n + 1) ((prevL K B n).map (.int .i64) ++ [.int .i64 (prevAt K B n)])) (hg : w.grownBy w1 vp.ownBlock) (hat : vp'.ownBlock = vp.ownBlock ∨ vp'.ownBlock = some w.heap.size) :
    Parts (w1.setCell ⟨p, 4, none⟩ vp') p K B (n + 1) nl nc vb vp' L C ∧ Keeps w (w1.setCell ⟨p, 4, none⟩ vp') (p :: vp.ownBlock.toList) := by
  obtain ⟨q1, q2, q3, q4, q5, q6⟩ := h.nn
  obtain ⟨l1, l2, l3, l4, l5⟩ := h.lts
  have hk : Keeps w w1 vp.ownBlock.toList := Keeps.of_grown hg (fun x hx => by simp [hx])
  have nob : ∀ x, x ∈ vp.ownBlock.toList ↔ vp.ownBlock = some x := fun x => by simp
  have hk2 : Keeps w (w1.setCell ⟨p, 4, none⟩ vp') (p :: vp.ownBlock.toList) := (hk.mono (fun x hx => by simp [hx])).setCell (a := ⟨p, 4, none⟩) (.inr (by simp)) _
  have hb1 := h.blk.keeps hk (fun hm => (q5 p ((nob p).1 hm)).1 rfl)
  have hvb : ∀ x, vb.ownBlock = some x → x ∉ p :: vp.ownBlock.toList := fun x hx hm => by
    rcases List.mem_cons.1 hm with rfl | hm
    · exact (q4 x hx).1 rfl
    · exact q6 x hx ((nob x).1 hm)
  have hvp' : ∀ x, vp'.ownBlock = some x → x ≠ p ∧ x ≠ L ∧ x ≠ C ∧ vb.ownBlock ≠ some x := fun x hx => by
    rcases hat with e | e
    · rw [e] at hx
      exact ⟨(q5 x hx).1, (q5 x hx).2.1, (q5 x hx).2.2, fun h2 => q6 x h2 hx⟩
    · rw [e] at hx
      have : x = w.heap.size := (Option.some.inj hx).symm
      exact ⟨by omega, by omega, by omega, fun hx2 => by have := l4 x hx2; omega⟩
  refine ⟨⟨nodup_parts q1 q2 q3 q4 (fun x hx => ⟨(hvp' x hx).1, (hvp' x hx).2.1, (hvp' x hx).2.2.1⟩) (fun x hx h2 => (hvp' x h2).2.2.2 hx), ?_, ?_, ?_, ?_, ?_⟩, hk2⟩
  · exact hb1.set 4 vp'
  · exact own_keepsS h.ob hk2 hvb
  · rw [prevL_succ, List.map_append]
    exact own_setCell own (fun e => (hvp' p e).1 rfl) _
  · exact h.mL.keeps hk2 (fun hm => by rcases List.mem_cons.1 hm with e | hm; exact q1 e.symm; exact (q5 L ((nob L).1 hm)).2.1 rfl)
  · exact h.mC.keeps hk2 (fun hm => by rcases List.mem_cons.1 hm with e | hm; exact q2 e.symm; exact (q5 C ((nob C).1 hm)).2.2 rfl)

/-- The map of last positions has been written. -/
theorem Parts.last (h : Parts w p K B n nl nc vb vp L C) (hm : MapF w' L (nl + 1) (lastN K B (nl + 1))) (hg : w.grownBy w' (some L)) : Parts w' p K B n (nl + 1) nc vb vp L C ∧ Keeps w w' [L] := by
  obtain ⟨q1, q2, q3, q4, q5, q6⟩ := h.nn
  have hk : Keeps w w' [L] := Keeps.of_grown hg (fun x hx => by cases hx; simp)
  exact ⟨⟨h.nd, h.blk.keeps hk (by simpa using q1), own_keepsS h.ob hk (fun x hx => by simpa using (q4 x hx).2.1), own_keepsS h.ov hk (fun x hx => by simpa using (q5 x hx).2.1), hm, h.mC.keeps hk (by simpa using fun e : C = L => q3 e.symm)⟩, hk⟩
/-- The map of counts has been written. -/
theorem Parts.cnt (h : Parts w p K B n nl nc vb vp L C) (hm : MapF w' C (nc + 1) (cntN K B (nc + 1))) (hg : w.grownBy w' (some C)) : Parts w' p K B n nl (nc + 1) vb vp L C ∧ Keeps w w' [C] := by
  obtain ⟨q1, q2, q3, q4, q5, q6⟩ := h.nn
  have hk : Keeps w w' [C] := Keeps.of_grown hg (fun x hx => by cases hx; simp)
  exact ⟨⟨h.nd, h.blk.keeps hk (by simpa using q2), own_keepsS h.ob hk (fun x hx => by simpa using (q4 x hx).2.2), own_keepsS h.ov hk (fun x hx => by simpa using (q5 x hx).2.2), h.mL.keeps hk (by simpa using q3), hm⟩, hk⟩

theorem Parts.blkb (h : Parts w p K B n nl nc vb vp L C) (hg : w.grownBy w1 vb.ownBlock) : Blk w1 p #[vb, .int .i64 (K : Int), .map (some L), .map (some C), vp] 62 :=
  h.blk.keeps (Keeps.of_grown (S := vb.ownBlock.toList) hg (fun x hx => by simp [hx])) (fun hm => (h.nn.2.2.2.1 p (by simpa using hm)).1 rfl)
theorem Parts.blkv (h : Parts w p K B n nl nc vb vp L C) (hg : w.grownBy w1 vp.ownBlock) : Blk w1 p #[vb, .int .i64 (K : Int), .map (some L), .map (some C), vp] 62 :=
  h.blk.keeps (Keeps.of_grown (S := vp.ownBlock.toList) hg (fun x hx => by simp [hx])) (fun hm => (h.nn.2.2.2.2.1 p (by simpa using hm)).1 rfl)

/-- The cells of the index, as a walk asks for them. -/
theorem Parts.cells (h : Parts w p K B n nl nc vb vp L C) : w.cell? ⟨p, 0, none⟩ = some vb ∧ w.cell? ⟨p, 1, none⟩ = some (.int .i64 (K : Int)) ∧ w.cell? ⟨p, 2, none⟩ = some (.map (some L)) ∧ w.cell? ⟨p, 3, none⟩ = some (.map (some C)) ∧
    w.cell? ⟨p, 4, none⟩ = some vp ∧ w.frozen? ⟨p, 0, none⟩ = false ∧ w.frozen? ⟨p, 4, none⟩ = false :=
  ⟨h.blk.cell 0, h.blk.cell 1, h.blk.cell 2, h.blk.cell 3, h.blk.cell 4, h.blk.frozen 0, h.blk.frozen 4⟩
end

end Go.Proofs.Yticlhaofmcajpaa
