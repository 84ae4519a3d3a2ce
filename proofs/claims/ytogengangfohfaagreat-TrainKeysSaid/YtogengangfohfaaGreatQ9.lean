/-
  The idiom append([]T{}, x...): a copy of a slice of numbers in memory of the call's own. No program is in sight here.
  A region that draws its order and calls, walked as ONE line of steps: the condition on the world may be chosen anew, and stronger, behind each call. No program is in sight here.
  Structs of many cells: a whole one is stored into a block, or loaded from it. No program is in sight here.
  Lists whose elements take several cells each, in memory: what a slice of them reads as; append. No program is in sight here.
  Rows of strings in memory: what a slice of keys reads as; append of one value.
  Walks: slices.Clone at []byte; rows of bytes.
  slices.Chunk over a slice of bytes: its iterator's contract; slices.AppendSeq of it.
-/
import Derived.Test.YtogengangfohfaaGreatQ1
import Derived.Deep.RegionHeld3
import Derived.WalkKit
import Derived.Laws.Rows
import Derived.Laws.Tables
import Derived.Deep.MidRow
import Derived.Deep.RegionLaw
import Derived.Test.YtogengangfohfaaGreatQ8
import Derived.Test.YtogengangfohfaaGreatRows
import Derived.Shelf.Abstract
import Derived.Test.YtogengangfohfaaGreatQ6
import Derived.Test.YtogengangfohfaaGreatQ7
import Derived.IntWalk
import Derived.BigFrameIn
import Derived.Test.YtogengangfohfaaGreatQ3
import Derived.Maps.OwnIn
namespace Go.Proofs.YtogengangfohfaaGreat
section
set_option linter.unusedVariables false
set_option linter.unusedSimpArgs false
open Go.RowKit

/-- An empty slice literal. -/
theorem run_build0 {P : Program} (w : World) (t e : TypeId) (ie : TypeInfo) (z : Value)
    (hu : P.underlying t = some (.slice e)) (hie : P.info? e = some ie) (hz : ie.zero = some z) :
    (Instr.buildSlice t 0 #[]).run P w = .ok (.slice (some ⟨w.heap.size, 0, none⟩) 0 0) (w.alloc (.cells #[] e)) := by
  have h0 : Array.range 0 = #[] := rfl
  simp [Instr.buildSlice, run_underlying hu, sizeOf, typeInfo, zeroValue, hie, hz, newRow, Instr.fill, h0]

theorem wpList_build0 {P : Program} {ops : Array Oper} {rest : List Oper} {o : Oper} {a : Act} {w : World} {Q : Exit → Act → World → Prop} (hg : o.guard = none) (t e : TypeId) (ho : o.op = .buildSlice t 0 #[])
    (ie : TypeInfo) (z : Value) (size : Nat)
    (hu : P.underlying t = some (.slice e)) (hie : P.info? e = some ie) (hz : ie.zero = some z)
    (h : ∀ v, (w.alloc (.cells #[] e)).ownsRow w.heap.size e size v 0 [] → v.ownBlock = some w.heap.size → v ≠ .slice none 0 0 → wpList P ops Q rest (a.put o.dst v) (w.alloc (.cells #[] e))) : wpList P ops Q (o :: rest) a w := by
  refine wpList_plain hg fun K hK => ?_
  unfold Oper.wp execOp
  simp only [ho, Sem.run_bind, Array.map_empty, run_build0 w t e ie z hu hie hz, Result.andThen_ok]
  exact hK _ _ (h _ ⟨by simp, .inr ⟨_, 0, #[], rfl, Nat.le_refl _, heap_alloc_new w _, Nat.le_refl _, by decide, by simp, by simp⟩⟩ rfl (by simp))

theorem wpList_move {P : Program} {ops : Array Oper} {rest : List Oper} {o : Oper} {a : Act} {w : World} {Q : Exit → Act → World → Prop} (hg : o.guard = none) (x : Operand) (ho : o.op = .move x)
    (h : wpList P ops Q rest (a.put o.dst (a.eval x)) w) : wpList P ops Q (o :: rest) a w := by
  refine wpList_plain hg fun K hK => ?_
  unfold Oper.wp execOp
  simp only [ho]
  exact hK _ _ h

theorem grown_refl (w : World) (row : Option Nat) : w.grownBy w row := ⟨rfl, rfl, rfl, Nat.le_refl _, fun _ _ _ => rfl⟩

/-- append of a slice of numbers, nil or not, to a slice of the call's own. -/
theorem wpList_appendI {P : Program} {w : World} {ops : Array Oper} {rest : List Oper} {o : Oper} {a : Act} {Q : Exit → Act → World → Prop} (hgd : o.guard = none) (s x : Operand) (t : TypeId)
    (ho : o.op = .call { callee := .builtin .append, args := #[s, x], argTypes := #[t, t] })
    (base : Nat) (e : TypeId) (i : TypeInfo) (z : Value) (bytes : Nat) (ht : P.underlying t = some (.slice e)) (hi : P.info? e = some i) (hz : i.zero = some z)
    (hsize : i.size = 1) (hby : i.bytes = bytes) (hzs : z.cells.size = 1)
    (v : Value) (n : Nat) (xs : List Value) (hs : a.eval s = v) (hown : w.ownsRow base e 1 v n xs) (vx : Value) (hx : a.eval x = vx) (k : IntKind) (l : List Int) (hv : RdI k w vx l)
    (h63 : n + l.length ≤ maxLen) (hbytes : (n + l.length) * bytes ≤ 140737488355328) (hbase : base ≤ w.heap.size)
    (h : ∀ v' w', w'.ownsRow base e 1 v' (n + l.length) (xs ++ l.map (Value.int k)) → w.grownBy w' v.ownBlock → (v ≠ .slice none 0 0 → v' ≠ .slice none 0 0) → wpList P ops Q rest (a.put o.dst v') w') : wpList P ops Q (o :: rest) a w := by
  obtain ⟨A0, m, cp, rfl, hm, -⟩ := hv.form
  cases A0 with
  | none =>
    obtain ⟨rfl, rfl, rfl⟩ := hv.nilcap
    exact wpList_append_own_none hgd s x t ho base e i 1 ht hi v n xs hs hown hx (h v w (by simpa using hown) (grown_refl _ _) id)
  | some ad =>
    subst hm
    exact wpList_append_own w hgd s x t ho base e i z 1 bytes ht hi hz hsize hby hzs (by decide) v n xs hs hown ad l.length cp (l.map (Value.int k)) hx (by simp) hv.news (nums_one k l) h63 hbytes hbase
      (fun v' w' h1 h2 h3 => h v' w' h1 h2 (fun hne e => hne (h3.1 e).1))

/-- The copy: a literal without elements, the slice, append. -/
theorem wpList_copyI {P : Program} {w : World} {ops : Array Oper} {rest : List Oper} {o1 o2 o3 : Oper} {a : Act} {Q : Exit → Act → World → Prop} (g1 : o1.guard = none) (g2 : o2.guard = none) (g3 : o3.guard = none) (t e : TypeId) (x : Operand) (d1 d2 : Tmp)
    (ho1 : o1.op = .buildSlice t 0 #[]) (ho2 : o2.op = .move x) (ho3 : o3.op = .call { callee := .builtin .append, args := #[.tmp d1, .tmp d2], argTypes := #[t, t] })
    (i : TypeInfo) (z : Value) (bytes : Nat) (ht : P.underlying t = some (.slice e)) (hi : P.info? e = some i) (hz : i.zero = some z) (hsize : i.size = 1) (hby : i.bytes = bytes) (hzs : z.cells.size = 1)
    (vx : Value) (hx : ∀ v0, (a.put o1.dst v0).eval x = vx) (e1 : ∀ v0, ((a.put o1.dst v0).put o2.dst vx).eval (.tmp d1) = v0) (e2 : ∀ v0, ((a.put o1.dst v0).put o2.dst vx).eval (.tmp d2) = vx)
    (k : IntKind) (l : List Int) (hv : RdI k w vx l) (h63 : l.length ≤ maxLen) (hbytes : l.length * bytes ≤ 140737488355328)
    (h : ∀ v0 v' w', w'.ownsRow w.heap.size e 1 v' l.length (l.map (Value.int k)) → Keeps w w' [] → v' ≠ .slice none 0 0 → wpList P ops Q rest (((a.put o1.dst v0).put o2.dst vx).put o3.dst v') w') : wpList P ops Q (o1 :: o2 :: o3 :: rest) a w := by
  refine wpList_build0 g1 t e ho1 i z 1 ht hi hz fun v0 hown hb hne => ?_
  refine wpList_move g2 x ho2 ?_
  rw [hx v0]
  refine wpList_appendI g3 _ _ t ho3 w.heap.size e i z bytes ht hi hz hsize hby hzs v0 0 [] (e1 v0) hown vx (e2 v0) k l (hv.keeps ((Keeps.refl w []).alloc _)) (by simpa using h63) (by simpa using hbytes) (by simp) ?_
  intro v' w' h1 h2 h3
  refine h v0 v' w' (by simpa using h1) ?_ (h3 hne)
  rw [hb] at h2
  exact ((Keeps.refl w []).alloc _).trans (Keeps.of_grown (S := [w.heap.size]) h2 (fun j hj => by cases hj; simp)) (fun j hj hlt => by have := List.mem_singleton.1 hj; omega)
end

section
set_option linter.unusedVariables false
set_option linter.unusedSimpArgs false

/-- Behind a call the condition on the world may be chosen anew, and stronger. -/
theorem wpAnyH_stronger {P : Program} {md : Region.Mode} {ops : Array Oper} {Q : Exit → Act → World → Prop} {S S2 : World → Prop} (h : ∀ w, S2 w → S w) : ∀ {fuel : Nat} {listed : Array Bool} {a : Act} {w : World}, wpAnyH P md ops Q S2 fuel listed a w → wpAnyH P md ops Q S fuel listed a w
  | 0, _, _, _, hw => hw
  | fuel + 1, _, _, _, hw => ⟨hw.1, fun i hi => wpOp_mono (fun a' w' h' => ⟨h w' h'.1, wpAnyH_stronger h h'.2⟩) (hw.2 i hi)⟩

section
variable {P : Program} {md : Region.Mode} {os : List Oper} {Q : Exit → Act → World → Prop} {S : World → Prop}
theorem takeL {i : Nat} {oi : Oper} {v : Value} {fuel : Nat} {listed : Array Bool} {a : Act} {w : World} (hi : os[i]? = some oi)
    (hs : Region.noSelect os.toArray = true) (hf : Region.free md os.toArray listed i = true) (hr : (Region.ready md os.toArray listed).contains i = true)
    (hQ : ∀ c a w, Q (.panic c) (a.put oi.dst v) w → Q (.panic c) a w) (hw : Region.wanted oi (yielded os.toArray a.tmps) = true) (hy : ∀ w, S w → (execOp a.eval oi).run P w = .ok (.value v) w) (hS : S w)
    (h : wpAnyH P md os.toArray Q S fuel (listed.setIfInBounds i true) (a.put oi.dst v) w) : wpAnyH P md os.toArray Q S (fuel + 1) listed a w :=
  wpAnyH_take (by simpa using hi) hs hf hr hQ (Or.inl ⟨hw, hy⟩) hS h
theorem callL {i : Nat} {o : Oper} {fuel : Nat} {listed : Array Bool} {a : Act} {w : World} (hi : os[i]? = some o) (hr : Region.ready md os.toArray listed = [i])
    (h : ∀ K' : Act → World → Prop, Shut (∀ a w, S w → (S w → wpAnyH P md os.toArray Q S fuel (listed.setIfInBounds i true) a w) → K' a w) → if Region.wanted o (yielded os.toArray a.tmps) = true then Oper.wp P o a w K' Q else K' (a.put o.dst undef) w) :
    wpAnyH P md os.toArray Q S (fuel + 1) listed a w :=
  wpAnyH_ready hr (by simp) (AllReadyH.cons (by simpa using hi) h AllReadyH.nil)
end

/-- x[i:j] of a slice whose elements are one cell each: an equation for the walk. -/
theorem run_slice2 {P : Program} {t e : TypeId} (ht : P.underlying t = some (.slice e)) {i0 : TypeInfo} (hi : P.info? e = some i0) (h1 : i0.size = 1) {b o n c i j : Nat} {x y : Int} (hx : x = (i : Int)) (hy : y = (j : Int)) (hij : i ≤ j) (hjc : j ≤ c) (hic : i < c) (w : World) :
    (Instr.slice t (.slice (some ⟨b, o, none⟩) n c) (some (.int .i64 x)) (some (.int .i64 y)) none).run P w = .ok (.slice (some ⟨b, o + i, none⟩) (j - i) (c - i)) w := by
  subst hx hy
  have a3 : ¬ c = i := by omega
  simp [Instr.slice, Instr.sliceBounds, Instr.sliceBound, asIntOf, run_underlying ht, go_sem, sizeOf, typeInfo, hi, h1, hij, hjc, a3]
end

section
set_option linter.unusedVariables false
set_option linter.unusedSimpArgs false
open Go.RowKit

theorem keeps_setRow {w : World} {g : Nat} {cs : Array Value} : Keeps w (w.setRow g cs) [g] :=
  ⟨rfl, rfl, rfl, by simp [World.setRow], fun k _ hn => setRow_other w g k cs (by simpa using hn)⟩

/-- A whole struct into a block: the world behind it is named by what it holds. -/
theorem wpList_store_blk {P : Program} {ops : Array Oper} {rest : List Oper} {o : Oper} {a : Act} {w : World} {Q : Exit → Act → World → Prop} (hg : o.guard = none) (ty : TypeId) (x y : Operand) (ho : o.op = .store ty x y)
    (g : Nat) (cells : Array Value) (hx : a.eval x = .pointer (some ⟨g, 0, none⟩)) (hy : a.eval y = .agg cells) (t : TypeId) (old : Array Value) (hb : Blk w g old t) (hi : (P.info? ty).map (·.size) = some cells.size)
    (hold : old.size = cells.size) (h1 : cells.all (·.oneCell') = true) (h : ∀ W, Blk W g cells t → Keeps w W [g] → wpList P ops Q rest (a.put o.dst undef) W) : wpList P ops Q (o :: rest) a w :=
  wpList_plain hg fun _ hK => wp_store_row ty x y ho g cells hx hy t old hb hi hold h1 (hK _ _ (h _ (setRow_heap w g old cells t (0, 0) hb) keeps_setRow))

theorem Blk.range {w : World} {b : Nat} {cs : Array Value} {T : TypeId} (h : Blk w b cs T) (o : Nat) (l : List Value) (hl : ∀ j v, l[j]? = some v → cs[o + j]? = some v) : w.rangeAt b o l := fun j v hv => by
  rw [h.cell]; exact hl j v hv

theorem load_blk {P : Program} {w : World} {b : Nat} {cs : Array Value} {T : TypeId} (h : Blk w b cs T) {d : TypeDesc} (hu : P.underlying T = some d) (hd : d.isRow = true) (hi : (P.info? T).map (·.size) = some cs.size) :
    (loadVar T ⟨b, 0, none⟩).run P w = .ok (.agg cs) w := by
  have := run_loadVar_mid (P := P) w b 0 T cs.toList d (h.range 0 _ (fun j v hv => by simpa using hv)) hu hd (by simpa using hi)
  simpa using this

/-- Two results, the first of them in a block. -/
theorem res_cell_tmp {fn : Func} {p q : Tmp} {T : TypeId} (h : fn.results = #[.cell p T, .tmp q]) {tmps : Array Value} {P : Program} {w : World} {a : Addr} {v u : Value} (ht : tmps.getD p undef = .pointer (some a)) (hu : tmps.getD q undef = u) (hl : (loadVar T a).run P w = .ok v w) :
    (results fn tmps).run P w = .ok (.tuple #[v, u]) w := by
  have ht' : tmps[p]?.getD undef = .pointer (some a) := by simpa using ht
  have hu' : tmps[q]?.getD undef = u := by simpa using hu
  simp [results, h, Sem.run_bind, Result.andThen, ht', hu', asAddr, hl]
end

section
set_option linter.unusedVariables false
set_option linter.unusedSimpArgs false
set_option linter.unusedSectionVars false
open Go.RowKit

section
variable {α : Type} (row : α → List Value) (W : Nat)
def cellsW : List α → List Value
  | [] => []
  | x :: l => row x ++ cellsW l
/-- A slice value reads as a list of elements, each as its row of W cells. -/
structure RdW (w : World) (v : Value) (l : List α) : Prop where
  form : ∃ a n cp, v = .slice a n cp ∧ n = l.length ∧ n ≤ cp ∧ (a = none → n = 0 ∧ cp = 0) ∧ (0 < n → ∃ b o, a = some ⟨b, o, none⟩ ∧ b < w.heap.size ∧ ∀ i x, l[i]? = some x → w.rangeAt b (o + i * W) (row x))
end

section
variable {α : Type} {row : α → List Value} {W : Nat} (hW : ∀ x, (row x).length = W) (h1W : ∀ x, ∀ u ∈ row x, u.oneCell' = true)
include hW
theorem cellsW_length (l : List α) : (cellsW row l).length = l.length * W := by
  induction l with
  | nil => simp [cellsW]
  | cons x l ih => simp only [cellsW, List.length_append, List.length_cons, ih, hW, Nat.succ_mul]; omega
theorem cellsW_append (l m : List α) : cellsW row (l ++ m) = cellsW row l ++ cellsW row m := by
  induction l with
  | nil => simp [cellsW]
  | cons x l ih => simp [cellsW, ih]
theorem cellsW_get {l : List α} {i j : Nat} {x : α} {u : Value} (h : l[i]? = some x) (hu : (row x)[j]? = some u) : (cellsW row l)[i * W + j]? = some u := by
  induction l generalizing i with
  | nil => simp at h
  | cons y l ih =>
    have hj : j < W := by have := (List.getElem?_eq_some_iff.1 hu).1; rw [hW] at this; exact this
    cases i with
    | zero =>
      simp at h; subst h
      simp only [cellsW, Nat.zero_mul, Nat.zero_add]
      rw [List.getElem?_append_left (by rw [hW]; exact hj)]
      exact hu
    | succ i =>
      simp at h
      have h2 := ih h
      simp only [cellsW]
      rw [List.getElem?_append_right (by rw [hW, Nat.succ_mul]; omega), hW, show (i + 1) * W + j - W = i * W + j by rw [Nat.succ_mul]; omega]
      exact h2
theorem cellsW_at (hP : 0 < W) {l : List α} {j : Nat} {u : Value} (h : (cellsW row l)[j]? = some u) : ∃ x, l[j / W]? = some x ∧ (row x)[j % W]? = some u := by
  have hl := (List.getElem?_eq_some_iff.1 h).1
  rw [cellsW_length hW] at hl
  have hd : j / W < l.length := Nat.div_lt_of_lt_mul (by rw [Nat.mul_comm]; exact hl)
  obtain ⟨x, hx⟩ : ∃ x, l[j / W]? = some x := ⟨_, List.getElem?_eq_getElem hd⟩
  have hm : j % W < (row x).length := by rw [hW]; exact Nat.mod_lt _ hP
  have h2 := cellsW_get hW (u := (row x)[j % W]) hx (List.getElem?_eq_getElem hm)
  rw [show j / W * W + j % W = j by rw [Nat.mul_comm]; exact Nat.div_add_mod j W, h] at h2
  exact ⟨x, hx, by rw [List.getElem?_eq_getElem hm]; exact h2.symm⟩
include h1W in
theorem cellsW_one (hP : 0 < W) (l : List α) : ∀ u ∈ cellsW row l, u.oneCell' = true := by
  intro u hu
  obtain ⟨j, hj⟩ := List.mem_iff_getElem?.1 hu
  obtain ⟨x, -, h⟩ := cellsW_at hW hP hj
  exact h1W x u (List.mem_of_getElem? h)

variable {w w' : World} {v : Value} {l : List α} {a : Option Addr} {n cp : Nat}
omit hW
theorem RdW.nil : RdW row W w (.slice none 0 0) [] := ⟨_, _, _, rfl, rfl, Nat.le_refl _, fun _ => ⟨rfl, rfl⟩, fun h => absurd h (by omega)⟩
theorem RdW.keeps {S : List Nat} (h : RdW row W w v l) (k : Keeps w w' S) (hn : ∀ ad n cp, v = .slice (some ad) n cp → 0 < n → ad.block ∉ S) : RdW row W w' v l := by
  obtain ⟨a, n, cp, rfl, h1, h2, h3, hc⟩ := h.form
  refine ⟨a, n, cp, rfl, h1, h2, h3, fun h0 => ?_⟩
  obtain ⟨b, o, rfl, hb, h4⟩ := hc h0
  have hnb := hn _ _ _ rfl h0
  exact ⟨b, o, rfl, Nat.lt_of_lt_of_le hb k.size, fun i x hx j u hu => (k.cell (p := ⟨b, o + i * W + j, none⟩) hb hnb).trans (h4 i x hx j u hu)⟩
theorem RdW.keep (h : RdW row W w v l) (k : Keeps w w' []) : RdW row W w' v l := h.keeps k (fun _ _ _ _ _ => by simp)
theorem RdW.len (h : RdW row W w (.slice a n cp) l) : n = l.length := by
  obtain ⟨a', n', cp', he, h1, -⟩ := h.form
  cases he; exact h1
theorem RdW.cap (h : RdW row W w (.slice a n cp) l) : n ≤ cp := by
  obtain ⟨a', n', cp', he, h1, h2, -⟩ := h.form
  cases he; exact h2
theorem RdW.at (h : RdW row W w (.slice a n cp) l) {i : Nat} {x : α} (hx : l[i]? = some x) : ∃ b o, a = some ⟨b, o, none⟩ ∧ b < w.heap.size ∧ w.rangeAt b (o + i * W) (row x) := by
  obtain ⟨a', n', cp', he, h1, h2, h3, hc⟩ := h.form
  cases he
  have hlt := (List.getElem?_eq_some_iff.1 hx).1
  obtain ⟨b, o, e, hb, h4⟩ := hc (by omega)
  exact ⟨b, o, e, hb, h4 i x hx⟩
include hW
/-- The cells, as append asks for them. -/
theorem RdW.news (hP : 0 < W) {ad : Addr} (h : RdW row W w (.slice (some ad) n cp) l) : ∀ j u, (cellsW row l)[j]? = some u → w.cell? (ad.add j) = some u := by
  intro j u hj
  obtain ⟨x, hx, hu⟩ := cellsW_at hW hP hj
  obtain ⟨b, o, e, hb, h1⟩ := h.at hx
  cases e
  have e : (⟨b, o, none⟩ : Addr).add j = ⟨b, o + j, none⟩ := by simp [Addr.add]
  rw [e, show o + j = o + j / W * W + j % W by have := Nat.div_add_mod j W; rw [Nat.mul_comm] at this; omega]
  exact h1 _ u hu
/-- An owned row reads as the list. -/
theorem ownW_reads {base : Nat} {e : TypeId} (h : w.ownsRow base e W v l.length (cellsW row l)) : RdW row W w v l := by
  rcases h.2 with ⟨rfl, h0⟩ | ⟨g, cp, cur, rfl, hb, hg, hn, hm, hs, ht⟩
  · exact ⟨_, _, _, rfl, h0.symm, Nat.le_refl _, fun _ => ⟨rfl, rfl⟩, fun h => by omega⟩
  · refine ⟨_, _, _, rfl, rfl, hn, (fun h => by cases h), fun h0 => ⟨g, 0, rfl, (Array.getElem?_eq_some_iff.1 hg).1, fun i x hx j u hu => ?_⟩⟩
    have h2 := cellsW_get hW hx hu
    have hlt := (List.getElem?_eq_some_iff.1 h2).1
    rw [cellsW_length hW] at hlt
    rw [show 0 + i * W + j = i * W + j by omega, cell_of_row w g (i * W + j) cur e (0, 0) hg, ← h2, ← ht, List.getElem?_take, if_pos hlt]
    simp
omit hW
/-- One element in a block of its own. -/
theorem RdW.one {b : Nat} {x : α} {cs : Array Value} {T : TypeId} (h : Blk w b cs T) (hr : ∀ (j : Nat) (u : Value), (row x)[j]? = some u → cs[j]? = some u) : RdW row W w (.slice (some ⟨b, 0, none⟩) 1 1) [x] :=
  ⟨_, _, _, rfl, rfl, Nat.le_refl _, (fun h => by cases h), fun _ => ⟨b, 0, rfl, h.lt, fun i z hz => by
    cases i with
    | zero =>
      simp at hz; subst hz
      intro j u hu
      rw [show 0 + 0 * W + j = j by omega]
      exact (h.cell j).trans (hr j u hu)
    | succ i => simp at hz⟩⟩
end

/-- A step of a region that draws its order: append of a slice of such elements, nil or not, to a slice of the call's own. -/
theorem step_appendW {α : Type} {row : α → List Value} {W : Nat} (hW : ∀ x, (row x).length = W) (h1W : ∀ x, ∀ u ∈ row x, u.oneCell' = true) (hP : 0 < W) {P : Program} {ops : Array Oper} {o : Oper} {a : Act} {w : World} {K : Act → World → Prop} {Q : Exit → Act → World → Prop} {E : Prop} (hgd : o.guard = none) (s x : Operand) (t : TypeId)
    (ho : o.op = .call { callee := .builtin .append, args := #[s, x], argTypes := #[t, t] })
    (base : Nat) (e : TypeId) (i : TypeInfo) (z : Value) (bytes : Nat) (ht : P.underlying t = some (.slice e)) (hi : P.info? e = some i) (hz : i.zero = some z)
    (hsize : i.size = W) (hby : i.bytes = bytes) (hzs : z.cells.size = W)
    (v : Value) (n : Nat) (xs : List Value) (hs : a.eval s = v) (hown : w.ownsRow base e W v n xs) (vx : Value) (hx : a.eval x = vx) (l : List α) (hv : RdW row W w vx l)
    (h63 : n + l.length ≤ maxLen) (hbytes : (n + l.length) * bytes ≤ 140737488355328) (hbase : base ≤ w.heap.size)
    (h : ∀ v' w', w'.ownsRow base e W v' (n + l.length) (xs ++ cellsW row l) → w.grownBy w' v.ownBlock → K (a.put o.dst v') w') :
    if Region.wanted o (yielded ops a.tmps) = true then Oper.wp P o a w K Q else E := by
  have hw : Region.wanted o (yielded ops a.tmps) = true := by simp [Region.wanted, hgd]
  rw [if_pos hw]
  obtain ⟨A0, m, cp, rfl, hm, hcp, h0, -⟩ := hv.form
  cases A0 with
  | none =>
    obtain ⟨rfl, rfl⟩ := h0 rfl
    have hl : l = [] := List.eq_nil_of_length_eq_zero hm.symm
    subst hl
    have hrun := run_append_owned_none (P := P) (w := w) base t o.type e i W ht hi v n xs hown
    unfold Oper.wp
    simp [execOp, ho, resolve, invoke, builtin, hs, hx, hrun, Result.andThen]
    exact h v w (by simpa [cellsW] using hown) (grown_refl _ _)
  | some ad =>
    subst hm
    exact wp_append_own w s x t ho base e i z W bytes ht hi hz hsize hby hzs hP v n xs hs hown ad l.length cp (cellsW row l) hx (cellsW_length hW l) (hv.news hW hP) (cellsW_one hW h1W hP l) h63 hbytes hbase
      (fun v' w' h1 h2 _ => h v' w' h1 h2)
end

section
set_option linter.unusedVariables false
set_option linter.unusedSimpArgs false
set_option linter.unusedSectionVars false
open Go.RowKit

def rowS (k : List Int) : List Value := [keyS k]
theorem rowS_len : ∀ k, (rowS k).length = 1 := fun _ => rfl
theorem rowS_one : ∀ k, ∀ u ∈ rowS k, u.oneCell' = true := fun k u hu => by simp [rowS] at hu; subst hu; rfl
def RdS (w : World) (v : Value) (ks : List (List Int)) : Prop := RdW rowS 1 w v ks
def OwnS (w : World) (base : Nat) (v : Value) (ks : List (List Int)) : Prop := w.ownsRow base 9 1 v ks.length (cellsW rowS ks)
theorem OwnS.reads {w : World} {base : Nat} {v : Value} {ks : List (List Int)} (h : OwnS w base v ks) : RdS w v ks := ownW_reads rowS_len h
theorem OwnS.keeps {w w' : World} {base : Nat} {v : Value} {ks : List (List Int)} (h : OwnS w base v ks) (k : Keeps w w' []) : OwnS w' base v ks := own_keeps h k
theorem own_keepsS {w w' : World} {base : Nat} {e : TypeId} {size n : Nat} {v : Value} {xs : List Value} {S : List Nat} (h : w.ownsRow base e size v n xs) (k : Keeps w w' S) (hn : ∀ j ∈ S, j < base) : w'.ownsRow base e size v n xs := by
  refine ⟨h.1, ?_⟩
  rcases h.2 with ⟨rfl, h0⟩ | ⟨g, cap, cur, rfl, h1, h2, h3⟩
  · exact .inl ⟨rfl, h0⟩
  · exact .inr ⟨g, cap, cur, rfl, h1, (k.block g (Array.getElem?_eq_some_iff.1 h2).1 (fun hm => by have := hn g hm; omega)).trans h2, h3⟩
theorem OwnS.nil (w : World) (base : Nat) : OwnS w base (.slice none 0 0) [] := ⟨rfl, .inl ⟨rfl, rfl⟩⟩
theorem RdS.at {w : World} {a : Option Addr} {n c : Nat} {ks : List (List Int)} (h : RdS w (.slice a n c) ks) {i : Nat} {k : List Int} (hk : ks[i]? = some k) : ∃ b o, a = some ⟨b, o, none⟩ ∧ b < w.heap.size ∧ w.cell? ⟨b, o + i, none⟩ = some (keyS k) := by
  obtain ⟨b, o, e, hb, h1⟩ := RdW.at h hk
  have := h1 0 (keyS k) rfl
  rw [Nat.mul_one, Nat.add_zero] at this
  exact ⟨b, o, e, hb, this⟩
theorem Tryz.infoStr : (Tryz.prog.info? 9).map (fun i => (i.zero, i.size, i.bytes)) = some (some (.string .empty), 1, 16) := by kernel_rfl

theorem own_news1 {w : World} {b : Nat} {v : Value} {T : TypeId} (h : Blk w b #[v] T) : ∀ (j : Nat) (u : Value), [v][j]? = some u → w.cell? (Addr.add ⟨b, 0, none⟩ j) = some u := fun j u hj => by
  cases j with
  | zero =>
    obtain rfl : v = u := by simpa using hj
    exact h.cell 0
  | succ j => simp at hj

theorem keeps_row {w0 w1 w2 : World} {v : Value} (h : Keeps w0 w1 []) (k : Keeps w1 w2 (match v.ownBlock with | some g => [g] | none => [])) (hge : ∀ g, v.ownBlock = some g → w0.heap.size ≤ g) : Keeps w0 w2 [] :=
  h.trans k (fun j hj hlt => by
    cases hv : v.ownBlock with
    | none => rw [hv] at hj; simp at hj
    | some g => rw [hv] at hj; simp at hj; have := hge g hv; omega)

theorem own_sep {w : World} {base : Nat} {e : TypeId} {size n : Nat} {v : Value} {xs : List Value} (h : w.ownsRow base e size v n xs) {b : Nat} (hb : b < base) : b ∉ (match v.ownBlock with | some g => [g] | none => []) := by
  cases hv : v.ownBlock with
  | none => simp
  | some g => simp; have := (h.lt g hv).1; omega

/-- append of one value of a cell, just laid, to a slice of the call's own. -/
theorem wpList_app1V {P : Program} {w : World} {ops : Array Oper} {rest : List Oper} {o : Oper} {a : Act} {Q : Exit → Act → World → Prop} (hg : o.guard = none) (s x : Operand) (t : TypeId)
    (ho : o.op = .call { callee := .builtin .append, args := #[s, x], argTypes := #[t, t] })
    (base : Nat) (e : TypeId) (i : TypeInfo) (z : Value) (bytes : Nat) (ht : P.underlying t = some (.slice e)) (hi : P.info? e = some i) (hz : i.zero = some z) (hsize : i.size = 1) (hby : i.bytes = bytes) (hzs : z.cells.size = 1)
    (v : Value) (n : Nat) (L : List Value) (y : Value) (hy : y.oneCell' = true) (B : Nat) (hs : a.eval s = v) (hx : a.eval x = .slice (some ⟨B, 0, none⟩) 1 1) (hB : w.heap.size = B)
    (hown : w.ownsRow base e 1 v n L) (h63 : n + 1 ≤ maxLen) (hbytes : (n + 1) * bytes ≤ 140737488355328) (hbase : base ≤ w.heap.size)
    (h : ∀ a' c' w', w'.ownsRow base e 1 (.slice a' (n + 1) c') (n + 1) (L ++ [y]) → Keeps w w' (match v.ownBlock with | some g => [g] | none => []) → wpList P ops Q rest (a.put o.dst (.slice a' (n + 1) c')) w') :
    wpList P ops Q (o :: rest) a (w.alloc (.cells #[y] e)) := by
  subst hB
  refine wpList_append_own _ hg s x t ho base _ i z 1 bytes ht hi hz hsize hby hzs (by decide) v n L hs (own_keeps hown ((Keeps.refl w []).alloc _)) _ 1 1 [y] hx rfl (own_news1 (Blk.new w _ _)) (by simpa using hy) h63 (by omega) (by simp; omega) ?_
  intro v3 w3 h3 g3 _
  obtain ⟨a3, c3, rfl⟩ := own_form h3
  exact h a3 c3 w3 h3 (((Keeps.refl w _).alloc _).trans (Keeps.of_grown g3 (fun k hk => by rw [hk]; simp)) (fun j hj _ => hj))
end

section
set_option linter.unusedVariables false
set_option linter.unusedSimpArgs false
set_option linter.unusedSectionVars false
open Go.RowKit Go.Shelf

attribute [local go_sem] Oper.semAt_some

theorem Tryz.infoByte : (Tryz.prog.info? 5).map (fun i => (i.zero, i.size, i.bytes)) = some (some (.int .u8 0), 1, 1) := by kernel_rfl

/-- A row of bytes of the call's own. -/
abbrev OwnB (w : World) (base : Nat) (v : Value) (l : List Int) : Prop := w.ownsRow base 5 1 v l.length (l.map (.int .u8))

theorem own_ne {w : World} {base : Nat} {v : Value} {l : List Int} (h : OwnB w base v l) {b : Nat} {o : Obj} (hb : w.heap[b]? = some o) (ho : ∀ cs, o ≠ .cells cs 5 (0, 0)) : v.ownBlock ≠ some b := by
  rcases h.2 with ⟨rfl, -⟩ | ⟨g, cap, cur, rfl, -, hg, -⟩
  · simp [Value.ownBlock]
  · intro e
    simp [Value.ownBlock] at e
    subst e
    rw [hg] at hb
    exact ho _ (Option.some.inj hb).symm

theorem own_moved {w w' : World} {base : Nat} {v : Value} {l : List Int} (h : OwnB w base v l) (hg : ∀ g, v.ownBlock = some g → w'.heap[g]? = w.heap[g]?) : OwnB w' base v l := by
  refine ⟨h.1, ?_⟩
  rcases h.2 with ⟨rfl, h0⟩ | ⟨g, cap, cur, rfl, h1, h2, h3⟩
  · exact .inl ⟨rfl, h0⟩
  · exact .inr ⟨g, cap, cur, rfl, h1, (hg g rfl).trans h2, h3⟩

set_option maxRecDepth 100000 in
set_option maxHeartbeats 1000000 in
theorem cloneb_any (v : Value) (l : List Int) (w : World) (hv : RdI .u8 w v l) (hl : l.length ≤ 1000000) :
    Calls Tryz.prog 81 #[v] w fun e w' => ∃ v', e = .returned v' ∧ OwnB w' w.heap.size v' l ∧ Keeps w w' [] := by
  obtain ⟨i0, hi, hz0, hz1, hz2⟩ := info_parts Tryz.infoByte
  obtain ⟨ad, n, c, rfl, -, -⟩ := hv.form
  have HV := Lib.hid hv
  have heq : ∀ w : World, (binOp .eql 33 (.slice ad n c) (.slice none 0 0)).run Tryz.prog w = .ok (.bool ad.isNone) w := fun w => Lib.run_eql_slice_nil w _ _ _ _ _ _ _ Tryz.underlying33
  cases ad with
  | none =>
    obtain ⟨rfl, rfl, rfl⟩ := hv.nilcap
    simp only [Option.isNone_none] at heq
    clear hv
    go_enter Tryz.func81, Tryz.ntmps81
    go_wp2_with fail
    go_ret
    exact ⟨_, rfl, World.ownsRow_nil _ _ _ _, Keeps.refl _ _⟩
  | some ad =>
    simp only [Option.isNone_some] at heq
    clear hv
    go_enter Tryz.func81, Tryz.ntmps81
    go_wp2_with (refine wpList_copyI rfl rfl rfl 33 5 _ _ _ rfl rfl rfl i0 (.int .u8 0) 1 Tryz.underlying33 hi hz0 hz1 hz2 rfl (.slice (some ad) n c) (fun _ => rfl) (fun _ => rfl) (fun _ => rfl) .u8 l HV.out (by unfold maxLen; omega) (by omega) ?_; intro v0 v1 w1 own1 k1 ne1; obtain ⟨a1, c1, rfl⟩ := own_form own1)
    go_ret
    exact ⟨_, rfl, own1, k1⟩
end

section
set_option linter.unusedVariables false
set_option linter.unusedSimpArgs false
set_option linter.unusedSectionVars false
open Go.RowKit

attribute [local go_sem] Oper.semAt_some

abbrev encV (x : Value) : Array Value := #[x]
/-- The piece that begins at 32 k, as a value. -/
def chV (g o n k : Nat) : Value := .slice (some ⟨g, o + 32 * k, none⟩) (min 32 (n - 32 * k)) (min 32 (n - 32 * k))
def chN (n : Nat) : Nat := (n + 31) / 32

theorem run_slice3 {P : Program} {t e : TypeId} (ht : P.underlying t = some (.slice e)) {i0 : TypeInfo} (hi : P.info? e = some i0) (h1 : i0.size = 1) {b o n c i j : Nat} {x y : Int} (hx : x = (i : Int)) (hy : y = (j : Int)) (hij : i < j) (hjc : j ≤ c) (w : World) :
    (Instr.slice t (.slice (some ⟨b, o, none⟩) n c) (some (.int .i64 x)) (some (.int .i64 y)) (some (.int .i64 y))).run P w = .ok (.slice (some ⟨b, o + i, none⟩) (j - i) (j - i)) w := by
  subst hx hy
  have a3 : ¬ j = i := by omega
  have a4 : ¬ c = i := by omega
  have a5 : i ≤ j := by omega
  simp [Instr.slice, Instr.sliceBounds, Instr.sliceBound, asIntOf, run_underlying ht, go_sem, sizeOf, typeInfo, hi, h1, hij, hjc, a3, a4, a5]
theorem run_sliceLo {P : Program} {t e : TypeId} (ht : P.underlying t = some (.slice e)) {i0 : TypeInfo} (hi : P.info? e = some i0) (h1 : i0.size = 1) {b o n c i : Nat} {x : Int} (hx : x = (i : Int)) (hin : i ≤ n) (hic : i < c) (w : World) :
    (Instr.slice t (.slice (some ⟨b, o, none⟩) n c) (some (.int .i64 x)) none none).run P w = .ok (.slice (some ⟨b, o + i, none⟩) (n - i) (c - i)) w := by
  subst hx
  have a3 : ¬ c = i := by omega
  have a4 : i ≤ c := by omega
  simp [Instr.slice, Instr.sliceBounds, Instr.sliceBound, asIntOf, run_underlying ht, go_sem, sizeOf, typeInfo, hi, h1, hin, a3, a4]

set_option maxRecDepth 100000 in
set_option maxHeartbeats 2000000 in
theorem chunk1_seq (bs bn g o n c : Nat) (ad : Option Addr) (had : 0 < n → ad = some ⟨g, o, none⟩) (w : World) (hn : n ≤ 1000000000) (hnc : n ≤ c) (hbs : Blk w bs #[.slice ad n c] 33) (hbn : Blk w bn #[.int .i64 32] 3) :
    SeqY Tryz.prog 173 #[.pointer (some ⟨bs, 0, none⟩), .pointer (some ⟨bn, 0, none⟩)] encV [bs, bn] (fun W => True)
      (fun ys => ys = upto (chV g o n) (chN n)) (fun pre => pre <+: upto (chV g o n) (chN n)) w := by
  obtain ⟨i0, hi0, hz0, hz1, hz2⟩ := info_parts Tryz.infoByte
  intro lo J Jx W hW hJ hJx hY h0
  have hbs' : Blk W bs #[.slice ad n c] 33 := (hW bs (by simp)).trans hbs
  have hbn' : Blk W bn #[.int .i64 32] 3 := (hW bn (by simp)).trans hbn
  have HY := Lib.hid hY
  have HJ := Lib.hid hJ
  clear hbs hbn hY hJ hJx
  refine callsIn_of_wp Tryz.func173 rfl trivial ?_ rfl
  simp only [Tryz.ntmps173, List.size_toArray, List.length_cons, List.length_nil, Nat.reduceAdd, Nat.reduceSub, Array.replicate_succ, Array.replicate_zero, List.push_toArray, List.append_toArray, List.nil_append, List.cons_append]
  gi_wp2
  gi_loopw [4] (fun s4 wr => ∃ k : Nat, k ≤ chN n ∧ s4 = .int .i64 ((32 * k : Nat) : Int) ∧ Blk wr bs #[.slice ad n c] 33 ∧ Blk wr bn #[.int .i64 32] 3 ∧ Hid (J (upto (chV g o n) k) wr))
    (fun s4 wr => 32 * chN n - (intOf s4).toNat)
  case atStart => exact ⟨0, Nat.zero_le _, rfl, hbs', hbn', h0⟩
  case round =>
    obtain ⟨k, hk, rfl, hbs, hbn, hJs⟩ := hrel
    obtain ⟨e3, -⟩ := hbs.one
    obtain ⟨e4, -⟩ := hbn.one
    have hcn : Hid (chN n = (n + 31) / 32) := rfl
    by_cases hlt : 32 * k < n
    · obtain rfl := had (by omega)
      have hkk : k < chN n := by have := hcn.out; omega
      clear had
      have hlt' : ((32 * k : Nat) : Int) < (n : Int) := by omega
      obtain ⟨K, hK⟩ : ∃ K : Nat, K = 32 * k := ⟨_, rfl⟩
      rw [← hK] at hlt' hlt ⊢
      obtain ⟨E, hE⟩ : ∃ E : Nat, E = min 32 (n - K) := ⟨_, rfl⟩
      have hsl := fun w => run_sliceLo (P := Tryz.prog) Tryz.underlying33 hi0 hz1 (b := g) (o := o) (n := n) (c := c) (i := K) (x := (K : Int)) rfl (by omega) (by omega) w
      have hmin : Hid ((if ((n - K : Nat) : Int) < (32 : Int) then ((n - K : Nat) : Int) else (32 : Int)) = (E : Int)) := by show _ = _; rw [hE]; split <;> omega
      have hsl2 := Lib.hid (fun w => run_slice3 (P := Tryz.prog) Tryz.underlying33 hi0 hz1 (b := g) (o := o) (n := n) (c := c) (i := K) (j := K + E) (x := (K : Int)) (y := (K : Int) + (E : Int)) rfl (by omega) (by omega) (by omega) w)
      have hE1 : E ≤ 32 := by omega
      have hE2 : K + E ≤ n := by omega
      have hyy := HY.out (upto (chV g o n) k) (chV g o n k) wr hJs.out trivial (by rw [← upto_succ]; exact upto_prefix _ hkk)
      have HK := Lib.hid hK
      have HE := Lib.hid hE
      have hdr : ∀ nq, J (upto (chV g o n) k) (wr.drewN nq) := fun nq => HJ.out _ _ _ hJs.out ((Keeps.refl wr _).drewN nq)
      have HDR := Lib.hid hdr
      clear hK hE hyy hdr
      gi_wp2
      refine wpIn_wide.2 ?_
      refine wp_region_quiet_lit (by kernel_rfl) (by kernel_rfl) ?_
      repeat (any_goals (first | go_big_quiet_step (fail) | quiet_step (fail)))
      refine wpQuiet_nil ?_
      intro _ hw'
      obtain ⟨nq, hw''⟩ := hw'
      subst hw''
      rw [hmin.out]
      replace hbs := hbs.drewN nq
      replace hbn := hbn.drewN nq
      obtain ⟨e3, -⟩ := hbs.one
      obtain ⟨e4, -⟩ := hbn.one
      obtain ⟨fn, tmps, assign, body, hy, hR⟩ := HY.out (upto (chV g o n) k) (chV g o n k) _ (HDR.out nq) trivial (by rw [← upto_succ]; exact upto_prefix _ hkk)
      have hch : chV g o n k = .slice (some ⟨g, o + K, none⟩) E E := by unfold chV; rw [HE.out, HK.out]
      rw [hch] at hy
      dsimp only [encV] at hy
      have hsl3 := hsl2.out (wr.drewN nq)
      rw [show K + E - K = E by omega] at hsl3
      have HCH := Lib.hid hch
      generalize wr.drewN nq = w1 at *
      clear hsl hch e3
      obtain ⟨e3, -⟩ := hbs.one
      gi_wp2
      refine (round_any hR).mono ?_
      rintro e W3 ⟨hk3, (⟨rfl, hJ3⟩ | ⟨rfl, hJx3⟩)⟩
      · have hb3 : Blk W3 bs #[.slice (some ⟨g, o, none⟩) n c] 33 := (hk3 bs (by simp)).trans hbs
        have hb4 : Blk W3 bn #[.int .i64 32] 3 := (hk3 bn (by simp)).trans hbn
        obtain ⟨e5, -⟩ := hb4.one
        have hJ4 : Hid (J (upto (chV g o n) (k + 1)) W3) := by show J _ _; rw [upto_succ]; exact hJ3
        clear hJ3 hk3 hsl3 e3 e4 hbs hbn hy hR
        gi_wp2
        go_roundw
        case rel => exact ⟨k + 1, hkk, by rw [HK.out]; go_num, hb3, hb4, hJ4⟩
        case measure => simp [intOf]; have := HK.out; omega
      · gi_wp2
        refine bodyPost_ret (results_none rfl _ _ _) rfl ?_
        refine ⟨⟨_, rfl⟩, .inr ⟨_, ?_, hJx3⟩⟩
        rw [← upto_succ]
        exact upto_prefix _ hkk
    · clear had
      obtain rfl : k = chN n := by have := hcn.out; omega
      have hlt' : decide (((32 * chN n : Nat) : Int) < (n : Int)) = false := decide_eq_false (by omega)
      gi_wp2
      go_end0
      exact ⟨⟨_, rfl⟩, .inl ⟨_, rfl, hJs.out⟩⟩
end

end Go.Proofs.YtogengangfohfaaGreat
