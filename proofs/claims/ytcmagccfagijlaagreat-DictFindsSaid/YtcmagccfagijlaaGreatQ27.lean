/-
  Lists whose elements take several cells each, in memory: what a slice of them reads as; append. No program is in sight here.
  The index of the first dictionary with a number: dict.Find and slices.IndexFunc.
  Walks over the laws of package dict: few.
-/
import Derived.Test.YtcmagccfagijlaaGreatQ5
import Derived.Test.YtcmagccfagijlaaGreatQ11
import Derived.Test.YtcmagccfagijlaaGreatQ13
import Derived.Deep.RegionHeld3
import Derived.Deep.RegionLaw
import Derived.Test.YtcmagccfagijlaaGreatQ24
namespace Go.Proofs.YtcmagccfagijlaaGreat
section
set_option linter.unusedVariables false
set_option linter.unusedSimpArgs false
set_option linter.unusedSectionVars false
open Go.RowKit

section
variable {α : Type} (row : α → List Value) (W : Nat)
def cellsW : List α → List Value
  | [] => []
  | x :: l => row x ++ cellsW l
/-- A slice value reads as a list of elements, each as its row of W cells. -/
structure RdW (w : World) (v : Value) (l : List α) : Prop where
  form : ∃ a n cp, v = .slice a n cp ∧ n = l.length ∧ n ≤ cp ∧ (a = none → n = 0 ∧ cp = 0) ∧ (0 < n → ∃ b o, a = some ⟨b, o, none⟩ ∧ b < w.heap.size ∧ ∀ i x, l[i]? = some x → w.rangeAt b (o + i * W) (row x))
end

section
variable {α : Type} {row : α → List Value} {W : Nat} (hW : ∀ x, (row x).length = W) (h1W : ∀ x, ∀ u ∈ row x, u.oneCell' = true)
include hW
theorem cellsW_length (l : List α) : (cellsW row l).length = l.length * W := by
  induction l with
  | nil => simp [cellsW]
  | cons x l ih => simp only [cellsW, List.length_append, List.length_cons, ih, hW, Nat.succ_mul]; omega
theorem cellsW_append (l m : List α) : cellsW row (l ++ m) = cellsW row l ++ cellsW row m := by
  induction l with
  | nil => simp [cellsW]
  | cons x l ih => simp [cellsW, ih]
theorem cellsW_get {l : List α} {i j : Nat} {x : α} {u : Value} (h : l[i]? = some x) (hu : (row x)[j]? = some u) : (cellsW row l)[i * W + j]? = some u := by
  induction l generalizing i with
  | nil => simp at h
  | cons y l ih =>
    have hj : j < W := by have := (List.getElem?_eq_some_iff.1 hu).1; rw [hW] at this; exact this
    cases i with
    | zero =>
      simp at h; subst h
      simp only [cellsW, Nat.zero_mul, Nat.zero_add]
      rw [List.getElem?_append_left (by rw [hW]; exact hj)]
      exact hu
    | succ i =>
      simp at h
      have h2 := ih h
      simp only [cellsW]
      rw [List.getElem?_append_right (by rw [hW, Nat.succ_mul]; omega), hW, show (i + 1) * W + j - W = i * W + j by rw [Nat.succ_mul]; omega]
      exact h2
theorem cellsW_at (hP : 0 < W) {l : List α} {j : Nat} {u : Value} (h : (cellsW row l)[j]? = some u) : ∃ x, l[j / W]? = some x ∧ (row x)[j % W]? = some u := by
  have hl := (List.getElem?_eq_some_iff.1 h).1
  rw [cellsW_length hW] at hl
  have hd : j / W < l.length := Nat.div_lt_of_lt_mul (by rw [Nat.mul_comm]; exact hl)
  obtain ⟨x, hx⟩ : ∃ x, l[j / W]? = some x := ⟨_, List.getElem?_eq_getElem hd⟩
  have hm : j % W < (row x).length := by rw [hW]; exact Nat.mod_lt _ hP
  have h2 := cellsW_get hW (u := (row x)[j % W]) hx (List.getElem?_eq_getElem hm)
  rw [show j / W * W + j % W = j by rw [Nat.mul_comm]; exact Nat.div_add_mod j W, h] at h2
  exact ⟨x, hx, by rw [List.getElem?_eq_getElem hm]; exact h2.symm⟩
include h1W in
theorem cellsW_one (hP : 0 < W) (l : List α) : ∀ u ∈ cellsW row l, u.oneCell' = true := by
  intro u hu
  obtain ⟨j, hj⟩ := List.mem_iff_getElem?.1 hu
  obtain ⟨x, -, h⟩ := cellsW_at hW hP hj
  exact h1W x u (List.mem_of_getElem? h)

variable {w w' : World} {v : Value} {l : List α} {a : Option Addr} {n cp : Nat}
omit hW
theorem RdW.nil : RdW row W w (.slice none 0 0) [] := ⟨_, _, _, rfl, rfl, Nat.le_refl _, fun _ => ⟨rfl, rfl⟩, fun h => absurd h (by omega)⟩
theorem RdW.keeps {S : List Nat} (h : RdW row W w v l) (k : Keeps w w' S) (hn : ∀ ad n cp, v = .slice (some ad) n cp → 0 < n → ad.block ∉ S) : RdW row W w' v l := by
  obtain ⟨a, n, cp, rfl, h1, h2, h3, hc⟩ := h.form
  refine ⟨a, n, cp, rfl, h1, h2, h3, fun h0 => ?_⟩
  obtain ⟨b, o, rfl, hb, h4⟩ := hc h0
  have hnb := hn _ _ _ rfl h0
  exact ⟨b, o, rfl, Nat.lt_of_lt_of_le hb k.size, fun i x hx j u hu => (k.cell (p := ⟨b, o + i * W + j, none⟩) hb hnb).trans (h4 i x hx j u hu)⟩
theorem RdW.keep (h : RdW row W w v l) (k : Keeps w w' []) : RdW row W w' v l := h.keeps k (fun _ _ _ _ _ => by simp)
theorem RdW.len (h : RdW row W w (.slice a n cp) l) : n = l.length := by
  obtain ⟨a', n', cp', he, h1, -⟩ := h.form
  cases he; exact h1
theorem RdW.cap (h : RdW row W w (.slice a n cp) l) : n ≤ cp := by
  obtain ⟨a', n', cp', he, h1, h2, -⟩ := h.form
  cases he; exact h2
theorem RdW.at (h : RdW row W w (.slice a n cp) l) {i : Nat} {x : α} (hx : l[i]? = some x) : ∃ b o, a = some ⟨b, o, none⟩ ∧ b < w.heap.size ∧ w.rangeAt b (o + i * W) (row x) := by
  obtain ⟨a', n', cp', he, h1, h2, h3, hc⟩ := h.form
  cases he
  have hlt := (List.getElem?_eq_some_iff.1 hx).1
  obtain ⟨b, o, e, hb, h4⟩ := hc (by omega)
  exact ⟨b, o, e, hb, h4 i x hx⟩
include hW
/-- The cells, as append asks for them. -/
theorem RdW.news (hP : 0 < W) {ad : Addr} (h : RdW row W w (.slice (some ad) n cp) l) : ∀ j u, (cellsW row l)[j]? = some u → w.cell? (ad.add j) = some u := by
  intro j u hj
  obtain ⟨x, hx, hu⟩ := cellsW_at hW hP hj
  obtain ⟨b, o, e, hb, h1⟩ := h.at hx
  cases e
  have e : (⟨b, o, none⟩ : Addr).add j = ⟨b, o + j, none⟩ := by simp [Addr.add]
  rw [e, show o + j = o + j / W * W + j % W by have := Nat.div_add_mod j W; rw [Nat.mul_comm] at this; omega]
  exact h1 _ u hu
/-- An owned row reads as the list. -/
theorem ownW_reads {base : Nat} {e : TypeId} (h : w.ownsRow base e W v l.length (cellsW row l)) : RdW row W w v l := by
  rcases h.2 with ⟨rfl, h0⟩ | ⟨g, cp, cur, rfl, hb, hg, hn, hm, hs, ht⟩
  · exact ⟨_, _, _, rfl, h0.symm, Nat.le_refl _, fun _ => ⟨rfl, rfl⟩, fun h => by omega⟩
  · refine ⟨_, _, _, rfl, rfl, hn, (fun h => by cases h), fun h0 => ⟨g, 0, rfl, (Array.getElem?_eq_some_iff.1 hg).1, fun i x hx j u hu => ?_⟩⟩
    have h2 := cellsW_get hW hx hu
    have hlt := (List.getElem?_eq_some_iff.1 h2).1
    rw [cellsW_length hW] at hlt
    rw [show 0 + i * W + j = i * W + j by omega, cell_of_row w g (i * W + j) cur e (0, 0) hg, ← h2, ← ht, List.getElem?_take, if_pos hlt]
    simp
omit hW
/-- One element in a block of its own. -/
theorem RdW.one {b : Nat} {x : α} {cs : Array Value} {T : TypeId} (h : Blk w b cs T) (hr : ∀ (j : Nat) (u : Value), (row x)[j]? = some u → cs[j]? = some u) : RdW row W w (.slice (some ⟨b, 0, none⟩) 1 1) [x] :=
  ⟨_, _, _, rfl, rfl, Nat.le_refl _, (fun h => by cases h), fun _ => ⟨b, 0, rfl, h.lt, fun i z hz => by
    cases i with
    | zero =>
      simp at hz; subst hz
      intro j u hu
      rw [show 0 + 0 * W + j = j by omega]
      exact (h.cell j).trans (hr j u hu)
    | succ i => simp at hz⟩⟩
end

/-- A step of a region that draws its order: append of a slice of such elements, nil or not, to a slice of the call's own. -/
theorem step_appendW {α : Type} {row : α → List Value} {W : Nat} (hW : ∀ x, (row x).length = W) (h1W : ∀ x, ∀ u ∈ row x, u.oneCell' = true) (hP : 0 < W) {P : Program} {ops : Array Oper} {o : Oper} {a : Act} {w : World} {K : Act → World → Prop} {Q : Exit → Act → World → Prop} {E : Prop} (hgd : o.guard = none) (s x : Operand) (t : TypeId)
    (ho : o.op = .call { callee := .builtin .append, args := #[s, x], argTypes := #[t, t] })
    (base : Nat) (e : TypeId) (i : TypeInfo) (z : Value) (bytes : Nat) (ht : P.underlying t = some (.slice e)) (hi : P.info? e = some i) (hz : i.zero = some z)
    (hsize : i.size = W) (hby : i.bytes = bytes) (hzs : z.cells.size = W)
    (v : Value) (n : Nat) (xs : List Value) (hs : a.eval s = v) (hown : w.ownsRow base e W v n xs) (vx : Value) (hx : a.eval x = vx) (l : List α) (hv : RdW row W w vx l)
    (h63 : n + l.length ≤ maxLen) (hbytes : (n + l.length) * bytes ≤ 140737488355328) (hbase : base ≤ w.heap.size)
    (h : ∀ v' w', w'.ownsRow base e W v' (n + l.length) (xs ++ cellsW row l) → w.grownBy w' v.ownBlock → K (a.put o.dst v') w') :
    if Region.wanted o (yielded ops a.tmps) = true then Oper.wp P o a w K Q else E := by
  have hw : Region.wanted o (yielded ops a.tmps) = true := by simp [Region.wanted, hgd]
  rw [if_pos hw]
  obtain ⟨A0, m, cp, rfl, hm, hcp, h0, -⟩ := hv.form
  cases A0 with
  | none =>
    obtain ⟨rfl, rfl⟩ := h0 rfl
    have hl : l = [] := List.eq_nil_of_length_eq_zero hm.symm
    subst hl
    have hrun := run_append_owned_none (P := P) (w := w) base t o.type e i W ht hi v n xs hown
    unfold Oper.wp
    simp [execOp, ho, resolve, invoke, builtin, hs, hx, hrun, Result.andThen]
    exact h v w (by simpa [cellsW] using hown) (grown_refl _ _)
  | some ad =>
    subst hm
    exact wp_append_own w s x t ho base e i z W bytes ht hi hz hsize hby hzs hP v n xs hs hown ad l.length cp (cellsW row l) hx (cellsW_length hW l) (hv.news hW hP) (cellsW_one hW h1W hP l) h63 hbytes hbase
      (fun v' w' h1 h2 _ => h v' w' h1 h2)
end

section
set_option linter.unusedVariables false
set_option linter.unusedSimpArgs false
set_option linter.unusedSectionVars false
open Go.RowKit

/-- The index of the first number that is id, counted from i; or -1. -/
def fstI (id : Int) : List Int → Nat → Int
  | [], _ => -1
  | x :: l, i => if x = id then i else fstI id l (i + 1)
theorem fstI_no {id : Int} {l : List Int} {i : Nat} (h : ∀ y ∈ l, y ≠ id) : fstI id l i = -1 := by
  induction l generalizing i with
  | nil => rfl
  | cons x l ih => rw [fstI, if_neg (h x (by simp)), ih (fun y hy => h y (by simp [hy]))]
theorem fstI_ge {id : Int} {l : List Int} {i : Nat} (h : id ∈ l) : 0 ≤ fstI id l i := by
  induction l generalizing i with
  | nil => cases h
  | cons x l ih =>
    rw [fstI]
    split
    · omega
    · next hx =>
      rcases List.mem_cons.1 h with rfl | h
      · exact absurd rfl hx
      · exact ih h
theorem fstI_lt {id : Int} {l : List Int} {i : Nat} : fstI id l i < (i : Int) + l.length := by
  induction l generalizing i with
  | nil => simp [fstI]; omega
  | cons x l ih =>
    rw [fstI]
    split
    · simp; omega
    · have := @ih (i + 1); simp at this ⊢; omega
theorem fstI_snoc {id : Int} {l : List Int} {i : Nat} {x : Int} : fstI id (l ++ [x]) i = if fstI id l i < 0 then (if x = id then ((i + l.length : Nat) : Int) else -1) else fstI id l i := by
  induction l generalizing i with
  | nil => simp [fstI]
  | cons y l ih =>
    by_cases hy : y = id
    · have e1 : fstI id (y :: l) i = i := by rw [fstI, if_pos hy]
      have e2 : fstI id (y :: l ++ [x]) i = i := by rw [List.cons_append, fstI, if_pos hy]
      rw [e2]
      simp only [e1]
      rw [if_neg (by omega)]
    · have e1 : fstI id (y :: l) i = fstI id l (i + 1) := by rw [fstI, if_neg hy]
      have e2 : fstI id (y :: l ++ [x]) i = fstI id (l ++ [x]) (i + 1) := by rw [List.cons_append, fstI, if_neg hy]
      rw [e2, ih]
      simp only [e1, List.length_cons, show i + 1 + l.length = i + (l.length + 1) by omega]
theorem fstI_take {id : Int} {l : List Int} {k : Nat} {x : Int} (h : l[k]? = some x) : fstI id (l.take (k + 1)) 0 = if fstI id (l.take k) 0 < 0 then (if x = id then (k : Int) else -1) else fstI id (l.take k) 0 := by
  have hk := (List.getElem?_eq_some_iff.1 h).1
  rw [take_next h, fstI_snoc]
  simp [Nat.min_eq_left (Nat.le_of_lt hk)]
theorem fstI_hit {id : Int} {l : List Int} {k : Nat} (h : l[k]? = some id) (hn : ∀ y ∈ l.take k, y ≠ id) : fstI id l 0 = k := by
  have hk := (List.getElem?_eq_some_iff.1 h).1
  have e : ∀ (m r : List Int) (i : Nat), (∀ y ∈ m, y ≠ id) → fstI id (m ++ id :: r) i = ((i + m.length : Nat) : Int) := fun m => by
    induction m with
    | nil => intro r i _; simp [fstI]
    | cons y m ih =>
      intro r i hm
      rw [List.cons_append, fstI, if_neg (hm y (by simp)), ih r (i + 1) (fun z hz => hm z (by simp [hz]))]
      simp; omega
  have h3 : l = l.take k ++ id :: l.drop (k + 1) := by
    have := List.take_append_drop k l
    rw [List.drop_eq_getElem_cons hk, (List.getElem?_eq_some_iff.1 h).2] at this
    exact this.symm
  rw [h3, e _ _ _ hn]
  simp [Nat.min_eq_left (Nat.le_of_lt hk)]

/-- A dictionary that has a number alone. -/
def rowD (x : Int) : List Value := [.int .u32 x, nilV, .int .i64 0, nilV, .int .i64 0, nilV, .int .i64 0, nilV, .int .i64 0, .int .i64 0, .int .i64 0, nilV]
theorem rowD_len (x : Int) : (rowD x).length = 12 := rfl
theorem rowD_one (x : Int) : ∀ u ∈ rowD x, u.oneCell' = true := by
  intro u hu
  simp only [rowD, List.mem_cons, List.not_mem_nil, or_false] at hu
  rcases hu with rfl | rfl | rfl | rfl | rfl | rfl | rfl | rfl | rfl | rfl | rfl | rfl <;> simp [Value.oneCell']
abbrev RdD (w : World) (v : Value) (l : List Int) : Prop := RdW rowD 12 w v l

theorem find1_any (id x : Int) (p : Nat) (w : World) (hb : Blk w p #[.int .u32 id] 24) :
    Calls Tryz.prog 57 #[.agg (dictC x nilV 0 nilV 0 nilV 0 nilV 0 0 0 nilV), .pointer (some ⟨p, 0, none⟩)] w fun e w' => e = .returned (.bool (decide (x = id))) ∧ Keeps w w' [] := by
  have hb1 := hb.alloc (.cells (dictC x nilV 0 nilV 0 nilV 0 nilV 0 0 0 nilV) 32)
  obtain ⟨c1, -⟩ := hb1.one
  have c2 := (Blk.new w (dictC x nilV 0 nilV 0 nilV 0 nilV 0 0 0 nilV) 32).cell 0
  simp at c2
  have hd : (x == id) = decide (x = id) := by rw [Bool.eq_iff_iff]; simp
  go_enter Tryz.func57, Tryz.ntmps57
  go_wp2_with fail
  go_ret
  exact ⟨by rw [← hd]; rfl, (Keeps.refl w []).alloc _⟩

set_option maxRecDepth 100000 in
set_option maxHeartbeats 4000000 in
theorem indexFunc_any (id : Int) (p : Nat) (v : Value) (l : List Int) (w : World) (hb : Blk w p #[.int .u32 id] 24) (hv : RdD w v l) (hn : l.length ≤ 1000) :
    Calls Tryz.prog 56 #[v, .func (.func 57) #[] #[.pointer (some ⟨p, 0, none⟩)]] w fun e w' => e = .returned (.int .i64 (fstI id l 0)) ∧ Keeps w w' [] := by
  obtain ⟨A0, n, cp0, rfl, hnl, -⟩ := hv.form
  have HV := Lib.hid hv
  have HN := Lib.hid hnl
  have HB := Lib.hid (fun w' (k : Keeps w w' []) (x : Int) => find1_any id x p w' (hb.keeps k (by simp)))
  have hn' : n ≤ 1000 := by omega
  obtain ⟨R, hR⟩ : ∃ R, R = fstI id l 0 := ⟨_, rfl⟩
  have HR := Lib.hid hR
  rw [← hR]
  clear hv hnl hb hn hR
  go_enter Tryz.func56, Tryz.ntmps56
  go_wp2_with fail
  go_loopw [8] (fun i wr => ∃ k : Nat, k ≤ n ∧ i = .int .i64 k ∧ Hid (∀ y ∈ l.take k, y ≠ id) ∧ Keeps w wr []) (fun i _ => n - (intOf i).toNat)
  case atStart => exact ⟨0, Nat.zero_le _, rfl, by show ∀ y ∈ _, _; simp, Keeps.refl _ _⟩
  case round =>
    obtain ⟨k, hk, rfl, hno, kk⟩ := hrel
    by_cases hlt : k < n
    · obtain ⟨x, hx⟩ : ∃ x, l[k]? = some x := ⟨_, List.getElem?_eq_getElem (by have := HN.out; omega)⟩
      obtain ⟨bb, o, rfl, hbb, hc⟩ := (HV.out.keep kk).at hx
      have hcap := HV.out.cap
      have hkn : (k : Int) < (n : Int) := by omega
      have hk0 : (0 : Int) ≤ (k : Int) := Int.natCast_nonneg _
      have q0 := hc 0 _ rfl
      have q1 := hc 1 _ rfl
      have q2 := hc 2 _ rfl
      have q3 := hc 3 _ rfl
      have q4 := hc 4 _ rfl
      have q5 := hc 5 _ rfl
      have q6 := hc 6 _ rfl
      have q7 := hc 7 _ rfl
      have q8 := hc 8 _ rfl
      have q9 := hc 9 _ rfl
      have qa := hc 10 _ rfl
      have qb := hc 11 _ rfl
      simp only [Nat.add_zero] at q0
      have HX := Lib.hid hx
      clear hc hx
      go_wp2_with fail
      by_cases hxi : x = id
      · have hd : decide (x = id) = true := decide_eq_true hxi
        have FR : Hid (R = (k : Int)) := by
          show _ = _
          rw [HR.out]
          exact fstI_hit (hxi ▸ HX.out) hno.out
        refine (HB.out _ kk x).mono ?_
        rw [hd]
        rintro e w1 ⟨rfl, k1⟩
        clear q0 q1 q2 q3 q4 q5 q6 q7 q8 q9 qa qb hd hxi
        go_wp2_with fail
        go_ret
        exact ⟨by rw [FR.out]; rfl, kk.then k1⟩
      · have hd : decide (x = id) = false := decide_eq_false hxi
        have NX : Hid (∀ y ∈ l.take (k + 1), y ≠ id) := by
          show ∀ y ∈ _, _
          rw [take_next HX.out]
          intro y hy
          rcases List.mem_append.1 hy with hy | hy
          · exact hno.out y hy
          · rw [List.mem_singleton.1 hy]; exact hxi
        refine (HB.out _ kk x).mono ?_
        rw [hd]
        rintro e w1 ⟨rfl, k1⟩
        clear q0 q1 q2 q3 q4 q5 q6 q7 q8 q9 qa qb hd hxi
        go_wp2_with fail
        go_roundw
        case rel => exact ⟨k + 1, by omega, by go_num, NX, kk.then k1⟩
        case measure => simp [intOf]; omega
    · have : k = n := by omega
      subst this
      have FR : Hid (R = -1) := by
        show _ = _
        rw [HR.out]
        refine fstI_no (fun y hy => hno.out y ?_)
        rw [List.take_of_length_le (by have := HN.out; omega)]
        exact hy
      go_wp2_with fail
      go_ret
      exact ⟨by rw [FR.out]; rfl, kk⟩

theorem find_any (id : Int) (v : Value) (l : List Int) (w : World) (hv : RdD w v l) (hn : l.length ≤ 1000) :
    Calls Tryz.prog 26 #[.int .u32 id, v] w fun e w' => e = .returned (.int .i64 (fstI id l 0)) ∧ Keeps w w' [] := by
  have hmf : ∀ (fn : Fn) (first cap : Array Value) (w : World), (Instr.makeFunc fn first cap).run Tryz.prog w = .ok (.func fn first cap) w := fun _ _ _ _ => rfl
  have HX := Lib.hid (indexFunc_any id w.heap.size v l _ (Blk.new w #[.int .u32 id] 24) (hv.keep ((Keeps.refl w []).alloc _)) hn)
  clear hv hn
  go_enter Tryz.func26, Tryz.ntmps26
  go_wp2_with fail
  refine HX.out.mono ?_
  rintro e w1 ⟨rfl, k1⟩
  go_wp2_with fail
  go_ret
  exact ⟨rfl, ((Keeps.refl w []).alloc _).then k1⟩
end

section
set_option linter.unusedVariables false
set_option linter.unusedSimpArgs false
set_option linter.unusedSectionVars false
open Go.RowKit

/-- A dictionary is small. -/
def fewB (T L1 L2 L3 X : List Int) : Bool := decide (X.length ≤ 3000 ∧ T.length ≤ 300 ∧ L1.length ≤ 600 ∧ L2.length ≤ 600 ∧ L3.length ≤ 600)
theorem fewB_iff {T L1 L2 L3 X : List Int} : fewB T L1 L2 L3 X = true ↔ X.length ≤ 3000 ∧ T.length ≤ 300 ∧ L1.length ≤ 600 ∧ L2.length ≤ 600 ∧ L3.length ≤ 600 := by simp [fewB]

set_option maxRecDepth 100000 in
set_option maxHeartbeats 4000000 in
theorem few_any (id g1 g2 g3 a b c : Int) (t n1 n2 n3 x : Value) (T L1 L2 L3 X : List Int) (w : World) (ht : RdI .i64 w t T) (h1 : RdI .i64 w n1 L1) (h2 : RdI .i64 w n2 L2) (h3 : RdI .i64 w n3 L3) (hx : RdI .u8 w x X) :
    Calls Tryz.prog 18 #[.agg (dictC id t g1 n1 g2 n2 g3 n3 a b c x)] w fun e w' => e = .returned (.bool (fewB T L1 L2 L3 X)) ∧ Keeps w w' [] := by
  obtain ⟨pa, pm, pc, rfl, l0, -⟩ := ht.form
  obtain ⟨p1a, p1m, p1c, rfl, l1, -⟩ := h1.form
  obtain ⟨p2a, p2m, p2c, rfl, l2, -⟩ := h2.form
  obtain ⟨p3a, p3m, p3c, rfl, l3, -⟩ := h3.form
  obtain ⟨pxa, pxm, pxc, rfl, l4, -⟩ := hx.form
  have hF : fewB T L1 L2 L3 X = (decide ((pxm : Int) ≤ 3000) && (decide ((pm : Int) ≤ 300) && (decide ((p1m : Int) ≤ 600) && (decide ((p2m : Int) ≤ 600) && decide ((p3m : Int) ≤ 600))))) := by
    have c0 : decide (X.length ≤ 3000) = decide ((pxm : Int) ≤ 3000) := decide_eq_decide.2 (by omega)
    have c1 : decide (T.length ≤ 300) = decide ((pm : Int) ≤ 300) := decide_eq_decide.2 (by omega)
    have c2 : decide (L1.length ≤ 600) = decide ((p1m : Int) ≤ 600) := decide_eq_decide.2 (by omega)
    have c3 : decide (L2.length ≤ 600) = decide ((p2m : Int) ≤ 600) := decide_eq_decide.2 (by omega)
    have c4 : decide (L3.length ≤ 600) = decide ((p3m : Int) ≤ 600) := decide_eq_decide.2 (by omega)
    simp only [fewB, Bool.decide_and, c0, c1, c2, c3, c4]
  rw [hF]
  clear hF ht h1 h2 h3 hx l0 l1 l2 l3 l4
  obtain ⟨R0, e0⟩ : ∃ R, decide ((pxm : Int) ≤ 3000) = R := ⟨_, rfl⟩
  obtain ⟨R1, e1⟩ : ∃ R, decide ((pm : Int) ≤ 300) = R := ⟨_, rfl⟩
  obtain ⟨R2, e2⟩ : ∃ R, decide ((p1m : Int) ≤ 600) = R := ⟨_, rfl⟩
  obtain ⟨R3, e3⟩ : ∃ R, decide ((p2m : Int) ≤ 600) = R := ⟨_, rfl⟩
  obtain ⟨R4, e4⟩ : ∃ R, decide ((p3m : Int) ≤ 600) = R := ⟨_, rfl⟩
  rw [e0, e1, e2, e3, e4]
  go_enter Tryz.func18, Tryz.ntmps18
  go_wp2_with fail
  all_goals
    clear e0 e1 e2 e3 e4
    go_ret
    refine ⟨?_, ((Keeps.refl w []).alloc _).alloc _⟩
    simp_all
end

end Go.Proofs.YtcmagccfagijlaaGreat
