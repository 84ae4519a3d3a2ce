/-
  Deep copies: the reference's own of a table, Own of a context; the law's own. (Printed by mkDX.py.)
-/
import Derived.Test.YtcmagccfagijlaaGreatQ12
import Derived.Test.YtcmagccfagijlaaGreatQ2
namespace Go.Proofs.YtcmagccfagijlaaGreat
set_option linter.unusedVariables false
set_option linter.unusedSimpArgs false
set_option linter.unusedSectionVars false
open Go.RowKit

/-- A whole struct is stored into a block, as a step of a drawn region. -/
theorem step_store_blk {P : Program} {ops : Array Oper} {o : Oper} {a : Act} {w : World} {K : Act → World → Prop} {Q : Exit → Act → World → Prop} {E : Prop} (hgd : o.guard = none) (ty : TypeId) (x y : Operand) (ho : o.op = .store ty x y)
    (g : Nat) (cells : Array Value) (hx : a.eval x = .pointer (some ⟨g, 0, none⟩)) (hy : a.eval y = .agg cells) (t : TypeId) (old : Array Value) (hb : Blk w g old t) (hi : (P.info? ty).map (·.size) = some cells.size)
    (hold : old.size = cells.size) (h1 : cells.all (·.oneCell') = true) (h : ∀ W, Blk W g cells t → Keeps w W [g] → K (a.put o.dst undef) W) :
    if Region.wanted o (yielded ops a.tmps) = true then Oper.wp P o a w K Q else E := by
  have hw : Region.wanted o (yielded ops a.tmps) = true := by simp [Region.wanted, hgd]
  rw [if_pos hw]
  exact wp_store_row ty x y ho g cells hx hy t old hb hi hold h1 (h _ (setRow_heap w g old cells t (0, 0) hb) keeps_setRow)

theorem RdI.past {k : IntKind} {w w' : World} {v : Value} {l : List Int} {b g : Nat} (h : RdI k w v l) (hf : Fresh b v) (kk : Keeps w w' [g]) (hg : g < b) : RdI k w' v l :=
  h.keepsS kk (fun ad n cp e _ hm => by have := hf ad n cp e; simp at hm; omega)
theorem own_freshI {w : World} {base : Nat} {e : TypeId} {v : Value} {n : Nat} {xs : List Value} (h : w.ownsRow base e 1 v n xs) : Fresh base v := fun ad n c e => by
  subst e
  exact (h.lt ad.block rfl).1
theorem tbl_size : (Tryz.prog.info? 27).map (·.size) = some 2 := by kernel_rfl
theorem load_tbl {w : World} {b : Nat} {cs : Array Value} (h : Blk w b cs 27) (hs : cs.size = 2) : (loadVar 27 ⟨b, 0, none⟩).run Tryz.prog w = .ok (.agg cs) w :=
  load_blk h Tryz.underlying27 rfl (by rw [tbl_size, hs])

end Go.Proofs.YtcmagccfagijlaaGreat
