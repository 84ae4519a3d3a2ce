/-
  Structs of many cells: a whole one is stored into a block, or loaded from it. No program is in sight here.
-/
import Derived.Test.YtcmagccfagijlaaGreatSl
import Derived.Laws.Rows
import Derived.Laws.Tables
import Derived.Deep.MidRow
namespace Go.Proofs.YtcmagccfagijlaaGreat
set_option linter.unusedVariables false
set_option linter.unusedSimpArgs false
open Go.RowKit

theorem keeps_setRow {w : World} {g : Nat} {cs : Array Value} : Keeps w (w.setRow g cs) [g] :=
  ⟨rfl, rfl, rfl, by simp [World.setRow], fun k _ hn => setRow_other w g k cs (by simpa using hn)⟩

/-- A whole struct into a block: the world behind it is named by what it holds. -/
theorem wpList_store_blk {P : Program} {ops : Array Oper} {rest : List Oper} {o : Oper} {a : Act} {w : World} {Q : Exit → Act → World → Prop} (hg : o.guard = none) (ty : TypeId) (x y : Operand) (ho : o.op = .store ty x y)
    (g : Nat) (cells : Array Value) (hx : a.eval x = .pointer (some ⟨g, 0, none⟩)) (hy : a.eval y = .agg cells) (t : TypeId) (old : Array Value) (hb : Blk w g old t) (hi : (P.info? ty).map (·.size) = some cells.size)
    (hold : old.size = cells.size) (h1 : cells.all (·.oneCell') = true) (h : ∀ W, Blk W g cells t → Keeps w W [g] → wpList P ops Q rest (a.put o.dst undef) W) : wpList P ops Q (o :: rest) a w :=
  wpList_plain hg fun _ hK => wp_store_row ty x y ho g cells hx hy t old hb hi hold h1 (hK _ _ (h _ (setRow_heap w g old cells t (0, 0) hb) keeps_setRow))

theorem Blk.range {w : World} {b : Nat} {cs : Array Value} {T : TypeId} (h : Blk w b cs T) (o : Nat) (l : List Value) (hl : ∀ j v, l[j]? = some v → cs[o + j]? = some v) : w.rangeAt b o l := fun j v hv => by
  rw [h.cell]; exact hl j v hv

theorem load_blk {P : Program} {w : World} {b : Nat} {cs : Array Value} {T : TypeId} (h : Blk w b cs T) {d : TypeDesc} (hu : P.underlying T = some d) (hd : d.isRow = true) (hi : (P.info? T).map (·.size) = some cs.size) :
    (loadVar T ⟨b, 0, none⟩).run P w = .ok (.agg cs) w := by
  have := run_loadVar_mid (P := P) w b 0 T cs.toList d (h.range 0 _ (fun j v hv => by simpa using hv)) hu hd (by simpa using hi)
  simpa using this

/-- Two results, the first of them in a block. -/
theorem res_cell_tmp {fn : Func} {p q : Tmp} {T : TypeId} (h : fn.results = #[.cell p T, .tmp q]) {tmps : Array Value} {P : Program} {w : World} {a : Addr} {v u : Value} (ht : tmps.getD p undef = .pointer (some a)) (hu : tmps.getD q undef = u) (hl : (loadVar T a).run P w = .ok v w) :
    (results fn tmps).run P w = .ok (.tuple #[v, u]) w := by
  have ht' : tmps[p]?.getD undef = .pointer (some a) := by simpa using ht
  have hu' : tmps[q]?.getD undef = u := by simpa using hu
  simp [results, h, Sem.run_bind, Result.andThen, ht', hu', asAddr, hl]

end Go.Proofs.YtcmagccfagijlaaGreat
