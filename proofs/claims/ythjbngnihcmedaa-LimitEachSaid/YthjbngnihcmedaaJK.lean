/-
  Lists of packages (a weight and a list of numbers) in memory: what a slice of them reads as; its parts; one that the call itself made; append. No program is in sight here.
-/
import Derived.Test.YthjbngnihcmedaaAp
import Derived.Test.YthjbngnihcmedaaHeld
import Derived.Deep.RegionHeld3
import Derived.Deep.RegionLaw
import Derived.Maps.AppendAt
namespace Go.Proofs.Ythjbngnihcmedaa
set_option linter.unusedVariables false
set_option linter.unusedSimpArgs false
open Go.RowKit

abbrev Pack := Int × List Int

/-- A block in which no package and no package's list lies. -/
class Shun where
  g : Nat
variable [SH : Shun]
/-- A list of numbers outside that block. -/
def RdJ (w : World) (v : Value) (l : List Int) : Prop := RdI .i64 w v l ∧ ∀ ad n c, v = .slice (some ad) n c → 0 < n → ad.block ≠ SH.g
theorem RdJ.keeps {w w' : World} {v : Value} {l : List Int} (h : RdJ w v l) (k : Keeps w w' []) : RdJ w' v l := ⟨h.1.keeps k, h.2⟩

/-- A slice value reads as a list of packages. -/
structure RdK (w : World) (v : Value) (l : List Pack) : Prop where
  form : ∃ a n cp, v = .slice a n cp ∧ n = l.length ∧ n ≤ cp ∧ (a = none → n = 0 ∧ cp = 0) ∧ (0 < n → ∃ b o, a = some ⟨b, o, none⟩ ∧ b < w.heap.size ∧ b ≠ SH.g ∧ ∀ i p, l[i]? = some p → w.cell? ⟨b, o + i * 2, none⟩ = some (.int .i64 p.1) ∧ ∃ vi, w.cell? ⟨b, o + i * 2 + 1, none⟩ = some vi ∧ RdJ w vi p.2)

section
variable {w w' : World} {v : Value} {l : List Pack} {a : Option Addr} {n cp : Nat}
theorem RdK.nil : RdK w (.slice none 0 0) [] := ⟨_, _, _, rfl, rfl, Nat.le_refl _, fun _ => ⟨rfl, rfl⟩, fun h => absurd h (by omega)⟩
theorem RdK.keep (h : RdK w v l) (k : Keeps w w' []) : RdK w' v l := by
  obtain ⟨a, n, cp, rfl, h1, h2, h3, hc⟩ := h.form
  refine ⟨a, n, cp, rfl, h1, h2, h3, fun h0 => ?_⟩
  obtain ⟨b, o, rfl, hb, hbg, h4⟩ := hc h0
  refine ⟨b, o, rfl, Nat.lt_of_lt_of_le hb k.size, hbg, fun i p hp => ?_⟩
  obtain ⟨e1, vi, e2, e3⟩ := h4 i p hp
  exact ⟨(k.cell (p := ⟨b, o + i * 2, none⟩) hb (by simp)).trans e1, vi, (k.cell (p := ⟨b, o + i * 2 + 1, none⟩) hb (by simp)).trans e2, e3.keeps k⟩
theorem RdK.len (h : RdK w (.slice a n cp) l) : n = l.length := by
  obtain ⟨a', n', cp', he, h1, -⟩ := h.form
  cases he; exact h1
theorem RdK.cap (h : RdK w (.slice a n cp) l) : n ≤ cp := by
  obtain ⟨a', n', cp', he, h1, h2, -⟩ := h.form
  cases he; exact h2
theorem RdK.at (h : RdK w (.slice a n cp) l) {i : Nat} {p : Pack} (hp : l[i]? = some p) : ∃ b o vi, a = some ⟨b, o, none⟩ ∧ b < w.heap.size ∧ w.cell? ⟨b, o + i * 2, none⟩ = some (.int .i64 p.1) ∧ w.cell? ⟨b, o + i * 2 + 1, none⟩ = some vi ∧ RdJ w vi p.2 := by
  obtain ⟨a', n', cp', he, h1, h2, h3, hc⟩ := h.form
  cases he
  have hlt := (List.getElem?_eq_some_iff.1 hp).1
  obtain ⟨b, o, e, hb, -, h4⟩ := hc (by omega)
  obtain ⟨e1, vi, e2, e3⟩ := h4 i p hp
  exact ⟨b, o, vi, e, hb, e1, e2, e3⟩
end

/-- x[m:] of a slice of packages. -/
theorem slice_postK {P : Program} {t e : TypeId} (ht : P.underlying t = some (.slice e)) {i0 : TypeInfo} (hi : P.info? e = some i0) (h1 : i0.size = 2) {w : World} {a : Option Addr} {n c m : Nat} {l : List Pack} (h : RdK w (.slice a n c) l) (hm : m ≤ n) :
    ∃ a' c', (∀ w', (Instr.slice t (.slice a n c) (some (.int .i64 m)) none none).run P w' = .ok (.slice a' (n - m) c') w') ∧ RdK w (.slice a' (n - m) c') (l.drop m) := by
  have hcap := h.cap
  have hlen := h.len
  refine ⟨if c = m then a else a.map (·.add (m * 2)), c - m, fun w' => ?_, ?_⟩
  · by_cases hcm : c = m
    · simp [Instr.slice, Instr.sliceBounds, Instr.sliceBound, asIntOf, run_underlying ht, go_sem, sizeOf, typeInfo, hi, h1, hm, hcap, hcm]
    · simp [Instr.slice, Instr.sliceBounds, Instr.sliceBound, asIntOf, run_underlying ht, go_sem, sizeOf, typeInfo, hi, h1, hm, hcap, hcm]
  · obtain ⟨a', n', c', he, q1, q2, q3, hc⟩ := h.form
    cases he
    refine ⟨_, n - m, c - m, rfl, by simp; omega, by omega, (fun h => ?_), fun h0 => ?_⟩
    · split at h
      · have := q3 h; omega
      · cases a with
        | none => have := q3 rfl; omega
        | some ad => cases h
    · obtain ⟨b, o, e, hb, hbg, h4⟩ := hc (by omega)
      subst e
      refine ⟨b, o + m * 2, ?_, hb, hbg, fun i x hx => ?_⟩
      · rw [if_neg (by omega)]; simp [Addr.add]
      · rw [List.getElem?_drop] at hx
        have := h4 (m + i) x hx
        rw [show o + m * 2 + i * 2 = o + (m + i) * 2 by omega]
        exact this
/-- x[:m] of a slice of packages. -/
theorem slice_preK {P : Program} {t e : TypeId} (ht : P.underlying t = some (.slice e)) {i0 : TypeInfo} (hi : P.info? e = some i0) (h1 : i0.size = 2) {w : World} {a : Option Addr} {n c m : Nat} {l : List Pack} (h : RdK w (.slice a n c) l) (hm : m ≤ n) :
    ∃ a' c', (∀ w', (Instr.slice t (.slice a n c) none (some (.int .i64 m)) none).run P w' = .ok (.slice a' m c') w') ∧ RdK w (.slice a' m c') (l.take m) := by
  have hcap := h.cap
  have hlen := h.len
  have hmc : m ≤ c := by omega
  have e0 : a.map (·.add 0) = a := by cases a <;> simp [Addr.add]
  refine ⟨a, c, fun w' => ?_, ?_⟩
  · simp [Instr.slice, Instr.sliceBounds, Instr.sliceBound, asIntOf, run_underlying ht, go_sem, sizeOf, typeInfo, hi, h1, hmc, e0]
  · obtain ⟨a', n', c', he, q1, q2, q3, hc⟩ := h.form
    cases he
    refine ⟨a, m, c, rfl, by simp; omega, hmc, (fun h => by have := q3 h; omega), fun h0 => ?_⟩
    obtain ⟨b, o, e, hb, hbg, h4⟩ := hc (by omega)
    exact ⟨b, o, e, hb, hbg, fun i x hx => h4 i x (by
      rw [List.getElem?_take] at hx
      split at hx
      · exact hx
      · cases hx)⟩
/-- x[:m:m] of a slice of packages. -/
theorem slice_3K {P : Program} {t e : TypeId} (ht : P.underlying t = some (.slice e)) {i0 : TypeInfo} (hi : P.info? e = some i0) (h1 : i0.size = 2) {w : World} {a : Option Addr} {n c m : Nat} {l : List Pack} (h : RdK w (.slice a n c) l) (hm : m ≤ n) :
    ∃ a' c', (∀ w', (Instr.slice t (.slice a n c) none (some (.int .i64 m)) (some (.int .i64 m))).run P w' = .ok (.slice a' m c') w') ∧ RdK w (.slice a' m c') (l.take m) := by
  have hcap := h.cap
  have hlen := h.len
  have hmc : m ≤ c := by omega
  have e0 : a.map (·.add 0) = a := by cases a <;> simp [Addr.add]
  refine ⟨a, m, fun w' => ?_, ?_⟩
  · simp [Instr.slice, Instr.sliceBounds, Instr.sliceBound, asIntOf, run_underlying ht, go_sem, sizeOf, typeInfo, hi, h1, hmc, e0]
  · obtain ⟨a', n', c', he, q1, q2, q3, hc⟩ := h.form
    cases he
    refine ⟨a, m, m, rfl, by simp; omega, Nat.le_refl _, (fun h => by have := q3 h; omega), fun h0 => ?_⟩
    obtain ⟨b, o, e, hb, hbg, h4⟩ := hc (by omega)
    exact ⟨b, o, e, hb, hbg, fun i x hx => h4 i x (by
      rw [List.getElem?_take] at hx
      split at hx
      · exact hx
      · cases hx)⟩

/-- The cells xs are those of the packages l, and none of their lists lies in block g. -/
def CellsK (w : World) (g : Option Nat) (l : List Pack) (xs : List Value) : Prop :=
  xs.length = l.length * 2 ∧ ∀ i p, l[i]? = some p → xs[i * 2]? = some (.int .i64 p.1) ∧ ∃ vi, xs[i * 2 + 1]? = some vi ∧ RdJ w vi p.2 ∧ ∀ ad n c, vi = .slice (some ad) n c → 0 < n → ad.block < w.heap.size ∧ g ≠ some ad.block
/-- A slice of packages that the call itself made. -/
def OwnK (w : World) (base : Nat) (T : TypeId) (v : Value) (l : List Pack) : Prop := ∃ xs, w.ownsRow base T 2 v l.length xs ∧ CellsK w v.ownBlock l xs

section
variable {w w' : World} {base : Nat} {T : TypeId} {v : Value} {l : List Pack}
theorem OwnK.nil : OwnK w base T (.slice none 0 0) [] := ⟨[], World.ownsRow_nil _ _ _ _, rfl, fun i p h => by simp at h⟩
theorem OwnK.form (h : OwnK w base T v l) : ∃ ad cp, v = .slice ad l.length cp := by obtain ⟨xs, h1, -⟩ := h; exact own_form h1
theorem OwnK.keep (h : OwnK w base T v l) (k : Keeps w w' []) : OwnK w' base T v l := by
  obtain ⟨xs, h1, h2, h3⟩ := h
  refine ⟨xs, own_keeps h1 k, h2, fun i p hp => ?_⟩
  obtain ⟨e1, vi, e2, e3, e4⟩ := h3 i p hp
  exact ⟨e1, vi, e2, e3.keeps k, fun ad n c he h0 => ⟨Nat.lt_of_lt_of_le (e4 ad n c he h0).1 k.size, (e4 ad n c he h0).2⟩⟩
theorem OwnK.lower {base' : Nat} (h : OwnK w base T v l) (hb : base' ≤ base) : OwnK w base' T v l := by
  obtain ⟨xs, h1, h2⟩ := h
  exact ⟨xs, own_base h1 hb, h2⟩
theorem OwnK.reads (h : OwnK w base T v l) (hgb : SH.g < base) : RdK w v l := by
  obtain ⟨xs, h1, h2, h3⟩ := h
  rcases h1.2 with ⟨rfl, h0⟩ | ⟨g, cp, cur, rfl, hb, hg, hn, hm, hs, ht⟩
  · exact ⟨_, _, _, rfl, h0.symm, Nat.le_refl _, fun _ => ⟨rfl, rfl⟩, fun h => by omega⟩
  · refine ⟨_, _, _, rfl, rfl, hn, (fun h => by cases h), fun h0 => ⟨g, 0, rfl, (Array.getElem?_eq_some_iff.1 hg).1, by omega, fun i p hp => ?_⟩⟩
    have hlt := (List.getElem?_eq_some_iff.1 hp).1
    have e : ∀ j, j < l.length * 2 → w.cell? ⟨g, 0 + j, none⟩ = xs[j]? := fun j hj => by
      rw [Nat.zero_add, cell_of_row w g j cur T (0, 0) hg, ← ht, List.getElem?_take, if_pos hj]
      simp
    obtain ⟨e1, vi, e2, e3, -⟩ := h3 i p hp
    exact ⟨(e _ (by omega)).trans e1, vi, (e _ (by omega)).trans e2, e3⟩
/-- One package more. -/
theorem OwnK.snoc {xs : List Value} {v' vi : Value} {x : Int} {L : List Int} (h1 : CellsK w v.ownBlock l xs) (h2 : w'.ownsRow base T 2 v' (l.length + 1) (xs ++ [.int .i64 x, vi])) (hg : w.grownBy w' v.ownBlock) (hat : v'.ownBlock = v.ownBlock ∨ v'.ownBlock = some w.heap.size)
    (hv : RdJ w vi L) (hvi : ∀ ad n c, vi = .slice (some ad) n c → 0 < n → ad.block < w.heap.size ∧ v.ownBlock ≠ some ad.block) : OwnK w' base T v' (l ++ [(x, L)]) := by
  obtain ⟨hl, hc⟩ := h1
  have k : Keeps w w' v.ownBlock.toList := Keeps.of_grown hg (fun j hj => by simpa using hj)
  have keepI : ∀ (u : Value) (M : List Int), RdJ w u M → (∀ ad n c, u = .slice (some ad) n c → 0 < n → ad.block < w.heap.size ∧ v.ownBlock ≠ some ad.block) → RdJ w' u M ∧ ∀ ad n c, u = .slice (some ad) n c → 0 < n → ad.block < w'.heap.size ∧ v'.ownBlock ≠ some ad.block := fun u M hr hu => by
    refine ⟨⟨hr.1.keepsS k (fun ad n c he h0 hm => (hu ad n c he h0).2 (by simpa using hm)), hr.2⟩, fun ad n c he h0 => ?_⟩
    obtain ⟨q1, q2⟩ := hu ad n c he h0
    refine ⟨Nat.lt_of_lt_of_le q1 k.size, ?_⟩
    rcases hat with e | e
    · rw [e]; exact q2
    · rw [e]; intro e2; injection e2 with e3; omega
  refine ⟨xs ++ [.int .i64 x, vi], by rw [List.length_append, List.length_singleton]; exact h2, ?_, fun i p hp => ?_⟩
  · simp [hl]; omega
  · by_cases hi : i < l.length
    · rw [List.getElem?_append_left hi] at hp
      obtain ⟨e1, u, e2, e3, e4⟩ := hc i p hp
      refine ⟨by rw [List.getElem?_append_left (by omega)]; exact e1, u, by rw [List.getElem?_append_left (by omega)]; exact e2, ?_⟩
      exact keepI u p.2 e3 e4
    · have hlt := (List.getElem?_eq_some_iff.1 hp).1
      rw [List.length_append, List.length_singleton] at hlt
      obtain rfl : i = l.length := by omega
      rw [List.getElem?_append_right (Nat.le_refl _), Nat.sub_self] at hp
      simp at hp
      subst hp
      refine ⟨?_, vi, ?_, keepI vi L hv hvi⟩
      · rw [List.getElem?_append_right (by omega), show l.length * 2 - xs.length = 0 by omega]; rfl
      · rw [List.getElem?_append_right (by omega), show l.length * 2 + 1 - xs.length = 1 by omega]; rfl
end

omit SH in
theorem blk_one {w : World} {b : Nat} {x : Int} {k : IntKind} {T : TypeId} (h : Blk w b #[.int k x] T) : RdI k w (.slice (some ⟨b, 0, none⟩) 1 1) [x] :=
  ⟨_, _, _, rfl, rfl, (fun h => by cases h), fun _ => ⟨Nat.le_refl _, b, 0, rfl, h.lt, fun i z hz => by
    cases i with
    | zero => simp at hz; subst hz; exact h.cell 0
    | succ i => simp at hz⟩⟩
omit SH in
/-- The cells of one package in a block of its own, as append asks for them. -/
theorem news_one {w : World} {b : Nat} {x : Value} {y : Value} {T : TypeId} (h : Blk w b #[x, y] T) : ∀ j u, [x, y][j]? = some u → w.cell? ((⟨b, 0, none⟩ : Addr).add j) = some u := by
  intro j u hj
  have e : (⟨b, 0, none⟩ : Addr).add j = ⟨b, j, none⟩ := by simp [Addr.add]; try omega
  rw [e, h.cell j]
  show ([x, y].toArray)[j]? = some u
  rw [List.getElem?_toArray]
  exact hj

/-- A step of a region that draws its order: append of one package to a slice of the call's own. -/
theorem step_appendK {P : Program} {ops : Array Oper} {o : Oper} {a : Act} {w : World} {K : Act → World → Prop} {Q : Exit → Act → World → Prop} {E : Prop} (hgd : o.guard = none) (s x : Operand) (t : TypeId)
    (ho : o.op = .call { callee := .builtin .append, args := #[s, x], argTypes := #[t, t] })
    (base : Nat) (e : TypeId) (i : TypeInfo) (z : Value) (bytes : Nat) (ht : P.underlying t = some (.slice e)) (hi : P.info? e = some i) (hz : i.zero = some z)
    (hsize : i.size = 2) (hby : i.bytes = bytes) (hzs : z.cells.size = 2)
    (v : Value) (O : List Pack) (hs : a.eval s = v) (hown : OwnK w base e v O) (b : Nat) (x0 : Int) (vi : Value) (L : List Int) (T : TypeId) (hx : a.eval x = .slice (some ⟨b, 0, none⟩) 1 1) (hb : Blk w b #[.int .i64 x0, vi] T) (hv : RdJ w vi L)
    (hvi : ∀ ad n c, vi = .slice (some ad) n c → 0 < n → ad.block < w.heap.size ∧ v.ownBlock ≠ some ad.block) (h63 : O.length + 1 ≤ maxLen) (hbytes : (O.length + 1) * bytes ≤ 140737488355328) (hbase : base ≤ w.heap.size)
    (h : ∀ v' w', OwnK w' base e v' (O ++ [(x0, L)]) → w.grownBy w' v.ownBlock → K (a.put o.dst v') w') :
    if Region.wanted o (yielded ops a.tmps) = true then Oper.wp P o a w K Q else E := by
  have hw : Region.wanted o (yielded ops a.tmps) = true := by simp [Region.wanted, hgd]
  rw [if_pos hw]
  obtain ⟨xs, h1, h2⟩ := hown
  have hone : vi.oneCell' = true := by obtain ⟨a', n', c', rfl, -⟩ := hv.1.form; simp [Value.oneCell']
  obtain ⟨v', w', hr, q1, q2, -, q4⟩ := run_append_own_at (P := P) w base t o.type e i z 2 bytes ht hi hz hsize hby hzs (by decide) v O.length xs h1 ⟨b, 0, none⟩ 1 1 [.int .i64 x0, vi] rfl (news_one hb) (fun u hu => by
      simp only [List.mem_cons, List.not_mem_nil, or_false] at hu
      rcases hu with rfl | rfl
      · simp [Value.oneCell']
      · exact hone) h63 hbytes hbase
  unfold Oper.wp execOp
  simp only [ho, resolve, invoke, builtin, Sem.run_bind, Sem.run_pure, Result.andThen_ok, List.map_toArray, List.map_cons, List.map_nil, hs, hx, hr]
  exact h v' w' (OwnK.snoc h2 q1 q2 q4 hv hvi) q2

end Go.Proofs.Ythjbngnihcmedaa
