/-
  A slice of bytes as a string; slices of slices that a call collects. No program is in sight here.
  Structs of many cells: a whole one is stored into a block, or loaded from it. No program is in sight here.
  Steps of a region that draws its order: a slice literal without elements; append of a slice of numbers, nil or not, to a slice of the call's own. No program is in sight here.
  The places of a table's states in plain words. (No program in sight.)
  Maps from numbers to numbers in memory: what a map block holds as a function of keys; the runs of the operations on it.
  Valid tables in plain words; walks over package norm: Check.
  The places of a table's states in plain words: what is laid step by step. (No walk is done here.)
  Maps from numbers to numbers whose number of entries is known. (No walk is done here.)
  Walks over package spread: Step, turn and its iterator.
  Rows of bits in plain words: the bits of a number, the number of some bits, the bits of bytes. No program is in sight here.
  Walks over package bitin: the bits of a row as a number. (Printed by mkBv.py.)
  Walks over package bitin: readers of bits: left, may, Forward's Take, Align, New.
  What a description of a table says, in plain words: bits in, norms or an error out. (No program in sight.)
  append of a make, onto a slice of the call's own: so many zeros more. (No program in sight.)
  Rows of numbers that are changed in place.
  Walks over the reference of tables: States, Size, May.
  A flow in plain words: bits from the back, cells, symbols. (No program in sight.)
-/
import Derived.Test.YtcmagccfagijlaaGreatQ1
import Derived.Laws.BytesArg
import Derived.Laws.Rows
import Derived.Laws.Tables
import Derived.Deep.MidRow
import Derived.Deep.RegionHeld3
import Derived.Deep.RegionLaw
import Derived.ProofKit
import Derived.Maps.Own
import Derived.Maps.OwnOps
import Derived.Maps.OwnSet
import Derived.DeepKeys4
import Derived.WideKeyEntry
import Derived.Test.YtcmagccfagijlaaGreatRows
import Derived.IntWalk
import Derived.BigFrameIn
import Derived.Stop.RegionWithIn
import Derived.Laws.Bits64b
import Derived.Lib.AppendZerosOnto
import Derived.Laws.OwnMore
namespace Go.Proofs.YtcmagccfagijlaaGreat
set_option linter.unusedVariables false
set_option linter.unusedSimpArgs false
set_option linter.unusedSectionVars false
set_option maxRecDepth 100000
section
open Go.RowKit

theorem str_of {P : Program} {w : World} {v : Value} {l : List Int} (hv : RdI .u8 w v l) {src e dst : TypeId} (hs : P.underlying src = some (.slice e)) (he : P.underlying e = some (.int .u8)) (hd : P.underlying dst = some .string) :
  (convert src dst v).run P w = .ok (.string (strOfNums l)) w := by
 obtain ⟨a,n,cp,rfl,hn,h0,hc⟩ := hv.form
 by_cases hz : n = 0
 ·subst hz
  have : l = [] := List.eq_nil_of_length_eq_zero hn.symm
  subst this
  cases a with
  | none => exact run_convert_bytes_nil w src e hs he 0 cp dst hd
  | some a =>
   rw [run_convert_bytes_string w src dst e _ 0 cp hs he hd,run_bytesToString w a 0 cp [] (by simp [loadCells,loadCellsFrom])]
   rfl
 ·obtain ⟨-,b,o,rfl,hb,hcell⟩ := hc (by omega)
  refine run_convert_bytes_arg w src e hs he b o n cp l hn.symm (fun i hi => ?_) dst hd
  rw [hcell i _ (List.getElem?_eq_getElem (by omega))]
  simp [List.getD,List.getElem?_eq_getElem (show i < l.length by omega)]

theorem u8_bounds {n : Int} (h : (Lit.int .u8 n).wf = true) : 0 ≤ n ∧ n ≤ 255 := by
 simp [Lit.wf,IntKind.min,IntKind.max,IntKind.signed,IntKind.bits] at h
 omega

theorem RdI.piece {k : IntKind} {w : World} {b o n cp : Nat} {l : List Int} (h : RdI k w (.slice (some ⟨b,o,none⟩) n cp) l) {p q : Nat} (hpq : p + q ≤ n) (cp' : Nat) (hq : q ≤ cp') :
  RdI k w (.slice (some ⟨b,o + p,none⟩) q cp') ((l.drop p).take q) := by
 have hn := h.len
 refine ⟨_,_,_,rfl,by simp;omega,(fun h => by cases h),fun h0 => ⟨hq,b,o + p,rfl,?_,fun i x hx => ?_⟩⟩
 ·obtain ⟨b',o',e1,e2,-⟩ := h.addr (by omega)
  cases e1;exact e2
 ·rw [List.getElem?_take] at hx
  split at hx
  ·rw [List.getElem?_drop] at hx
   obtain ⟨b',o',e1,e2,e3⟩ := h.at hx
   cases e1
   rw [Nat.add_assoc];exact e3
  ·cases hx
end

section
open Go.RowKit

theorem keeps_setRow {w : World} {g : Nat} {cs : Array Value} : Keeps w (w.setRow g cs) [g] :=
 ⟨rfl,rfl,rfl,by simp [World.setRow],fun k _ hn => setRow_other w g k cs (by simpa using hn)⟩

theorem wpList_store_blk {P : Program} {ops : Array Oper} {rest : List Oper} {o : Oper} {a : Act} {w : World} {Q : Exit → Act → World → Prop} (hg : o.guard = none) (ty : TypeId) (x y : Operand) (ho : o.op = .store ty x y)
  (g : Nat) (cells : Array Value) (hx : a.eval x = .pointer (some ⟨g,0,none⟩)) (hy : a.eval y = .agg cells) (t : TypeId) (old : Array Value) (hb : Blk w g old t) (hi : (P.info? ty).map (·.size) = some cells.size)
  (hold : old.size = cells.size) (h1 : cells.all (·.oneCell') = true) (h : ∀ W,Blk W g cells t → Keeps w W [g] → wpList P ops Q rest (a.put o.dst undef) W) : wpList P ops Q (o :: rest) a w :=
 wpList_plain hg fun _ hK => wp_store_row ty x y ho g cells hx hy t old hb hi hold h1 (hK _ _ (h _ (setRow_heap w g old cells t (0,0) hb) keeps_setRow))

theorem Blk.range {w : World} {b : Nat} {cs : Array Value} {T : TypeId} (h : Blk w b cs T) (o : Nat) (l : List Value) (hl : ∀ j v,l[j]? = some v → cs[o + j]? = some v) : w.rangeAt b o l := fun j v hv => by
 rw [h.cell];exact hl j v hv

theorem load_blk {P : Program} {w : World} {b : Nat} {cs : Array Value} {T : TypeId} (h : Blk w b cs T) {d : TypeDesc} (hu : P.underlying T = some d) (hd : d.isRow = true) (hi : (P.info? T).map (·.size) = some cs.size) :
  (loadVar T ⟨b,0,none⟩).run P w = .ok (.agg cs) w := by
 have := run_loadVar_mid (P := P) w b 0 T cs.toList d (h.range 0 _ (fun j v hv => by simpa using hv)) hu hd (by simpa using hi)
 simpa using this

theorem res_cell_tmp {fn : Func} {p q : Tmp} {T : TypeId} (h : fn.results = #[.cell p T,.tmp q]) {tmps : Array Value} {P : Program} {w : World} {a : Addr} {v u : Value} (ht : tmps.getD p undef = .pointer (some a)) (hu : tmps.getD q undef = u) (hl : (loadVar T a).run P w = .ok v w) :
  (results fn tmps).run P w = .ok (.tuple #[v,u]) w := by
 have ht' : tmps[p]?.getD undef = .pointer (some a) := by simpa using ht
 have hu' : tmps[q]?.getD undef = u := by simpa using hu
 simp [results,h,Sem.run_bind,Result.andThen,ht',hu',asAddr,hl]
end

section
open Go.RowKit

theorem step_appendI {P : Program} {ops : Array Oper} {o : Oper} {a : Act} {w : World} {K : Act → World → Prop} {Q : Exit → Act → World → Prop} {E : Prop} (hgd : o.guard = none) (s x : Operand) (t : TypeId)
  (ho : o.op = .call { callee := .builtin .append,args := #[s,x],argTypes := #[t,t] })
  (base : Nat) (e : TypeId) (i : TypeInfo) (z : Value) (bytes : Nat) (ht : P.underlying t = some (.slice e)) (hi : P.info? e = some i) (hz : i.zero = some z)
  (hsize : i.size = 1) (hby : i.bytes = bytes) (hzs : z.cells.size = 1)
  (v : Value) (n : Nat) (xs : List Value) (hs : a.eval s = v) (hown : w.ownsRow base e 1 v n xs) (vx : Value) (hx : a.eval x = vx) (k : IntKind) (l : List Int) (hv : RdI k w vx l)
  (h63 : n + l.length ≤ maxLen) (hbytes : (n + l.length) * bytes ≤ 140737488355328) (hbase : base ≤ w.heap.size)
  (h : ∀ v' w',w'.ownsRow base e 1 v' (n + l.length) (xs ++ l.map (Value.int k)) → w.grownBy w' v.ownBlock → K (a.put o.dst v') w') :
  if Region.wanted o (yielded ops a.tmps) = true then Oper.wp P o a w K Q else E := by
 have hw : Region.wanted o (yielded ops a.tmps) = true := by simp [Region.wanted,hgd]
 rw [if_pos hw]
 obtain ⟨A0,m,cp,rfl,hm,-⟩ := hv.form
 cases A0 with
 | none =>
  obtain ⟨rfl,rfl,rfl⟩ := hv.nilcap
  have hrun := run_append_owned_none (P := P) (w := w) base t o.type e i 1 ht hi v n xs hown
  unfold Oper.wp
  simp [execOp,ho,resolve,invoke,builtin,hs,hx,hrun,Result.andThen]
  exact h v w (by simpa using hown) (grown_refl _ _)
 | some ad =>
  subst hm
  exact wp_append_own w s x t ho base e i z 1 bytes ht hi hz hsize hby hzs (by decide) v n xs hs hown ad l.length cp (l.map (Value.int k)) hx (by simp) hv.news (nums_one k l) h63 hbytes hbase
   (fun v' w' h1 h2 _ => h v' w' h1 h2)
end

section
def stepN (s : Nat) : Nat := if s < 16 then 1 else s / 2 + s / 8 + 3
def visitN (s k : Nat) : Nat := k * stepN s % s

theorem visit_ok : ∀ g ∈ List.range 10,((List.range (2 ^ g)).map (visitN (2 ^ g))).Nodup ∧ ∀ p ∈ List.range (2 ^ g),p ∈ (List.range (2 ^ g)).map (visitN (2 ^ g)) := by decide +kernel
theorem visit_nodup {g : Nat} (h : g ≤ 9) : ((List.range (2 ^ g)).map (visitN (2 ^ g))).Nodup := (visit_ok g (List.mem_range.2 (by omega))).1
theorem visit_all {g p : Nat} (h : g ≤ 9) (hp : p < 2 ^ g) : ∃ k,k < 2 ^ g ∧ visitN (2 ^ g) k = p := by
 obtain ⟨k,h1,h2⟩ := List.mem_map.1 ((visit_ok g (List.mem_range.2 (by omega))).2 p (List.mem_range.2 hp))
 exact ⟨k,List.mem_range.1 h1,h2⟩
theorem visit_inj {g i j : Nat} (h : g ≤ 9) (hi : i < 2 ^ g) (hj : j < 2 ^ g) (he : visitN (2 ^ g) i = visitN (2 ^ g) j) : i = j := by
 have hp := List.pairwise_iff_getElem.1 (List.pairwise_map.1 (visit_nodup h))
 rcases Nat.lt_trichotomy i j with h1 | h1 | h1
 ·have := hp i j (by simpa using hi) (by simpa using hj) h1
  simp only [List.getElem_range] at this
  exact (this he).elim
 ·exact h1
 ·have := hp j i (by simpa using hj) (by simpa using hi) h1
  simp only [List.getElem_range] at this
  exact (this he.symm).elim
theorem visit_lt {s k : Nat} (h : 0 < s) : visitN s k < s := Nat.mod_lt _ h
def freeN (s top k : Nat) : List Nat := ((List.range k).map (visitN s)).filter (fun p => decide (p < top))
theorem free_succ_yes {s top k : Nat} (h : visitN s k < top) : freeN s top (k + 1) = freeN s top k ++ [visitN s k] := by
 simp [freeN,List.range_succ,List.filter_append,h]
theorem free_succ_no {s top k : Nat} (h : ¬ visitN s k < top) : freeN s top (k + 1) = freeN s top k := by
 simp [freeN,List.range_succ,List.filter_append,h]

theorem visit_perm {g : Nat} (h : g ≤ 9) : ((List.range (2 ^ g)).map (visitN (2 ^ g))).Perm (List.range (2 ^ g)) :=
 (List.perm_ext_iff_of_nodup (visit_nodup h) List.nodup_range).2 fun p => by
  constructor
  ·intro hp
   obtain ⟨k,-,rfl⟩ := List.mem_map.1 hp
   exact List.mem_range.2 (visit_lt (Nat.two_pow_pos g))
  ·intro hp
   exact (visit_ok g (List.mem_range.2 (by omega))).2 p hp
theorem range_filter_lt (n top : Nat) (h : top ≤ n) : ((List.range n).filter (fun p => decide (p < top))).length = top := by
 induction n with
 | zero => simp;omega
 | succ n ih =>
  rw [List.range_succ,List.filter_append,List.length_append]
  by_cases h1 : top ≤ n
  ·rw [ih h1]
   simp
   omega
  ·have h2 : top = n + 1 := by omega
   subst h2
   rw [List.filter_eq_self.2 (fun a ha => by have := List.mem_range.1 ha;simp;omega)]
   simp
theorem free_len {g top : Nat} (h : g ≤ 9) (ht : top ≤ 2 ^ g) : (freeN (2 ^ g) top (2 ^ g)).length = top := by
 unfold freeN
 rw [((visit_perm h).filter _).length_eq]
 exact range_filter_lt _ _ ht

def lowsL (norm : List Int) : List Nat := (List.range norm.length).filter (fun s => norm.getD s 0 == -1)
def othersL (norm : List Int) : List Nat := (List.range norm.length).flatMap fun s => List.replicate (norm.getD s 0).toNat s
def placeN (g : Nat) (norm : List Int) (p : Nat) : Nat :=
 if 2 ^ g - (lowsL norm).length ≤ p then (lowsL norm).getD (2 ^ g - 1 - p) 0
 else (othersL norm).getD ((freeN (2 ^ g) (2 ^ g - (lowsL norm).length) (2 ^ g)).idxOf p) 0
def placesL (g : Nat) (norm : List Int) : List Nat := (List.range (2 ^ g)).map (placeN g norm)
end

section
open Go.RowKit Go.ChangeMaps Go.MapKept Go.Maps
open Go.WideElems (Fit rd rg pl rd_key rd_val)

theorem Tryz.ikeyed : Keyed Tryz.prog 3 := int_keyed Tryz.underlying3

abbrev ikey (q : Int) : Value := .int .i64 q
def IkWf (q : Int) : Prop := (Lit.int .i64 q).wf = true
def updI (f : Int → Option Int) (q : Int) (v : Int) : Int → Option Int := fun r => if r = q then some v else f r
theorem ikey_lit {q : Int} (h : IkWf q) : ∃ kl,keyOf Tryz.prog 3 (ikey q) = some kl :=
 ⟨_,keyOf_int_mk Tryz.underlying3 h⟩
theorem ikey_inj {a b : Int} (h : ikey a = ikey b) : a = b := by
 simpa [ikey] using h

def MapI (w : World) (b n : Nat) (f : Int → Option Int) : Prop :=
 ∃ D : DataW Unit,w.ownsMap Tryz.prog 3 (plainElem Tryz.prog 3) b n D ∧
  ∀ q kl,IkWf q → keyOf Tryz.prog 3 (ikey q) = some kl → Maps.has D kl = (f q).isSome ∧ D.atKey kl (.lit (.int .i64 0)) = .lit (.int .i64 ((f q).getD 0))

theorem zeroInt (w : World) : (zeroValue 3).run Tryz.prog w = .ok (.int .i64 0) w := by kernel_rfl

section
variable {w w' : World} {b n : Nat} {f : Int → Option Int} {q : Int}

theorem MapI.lt (h : MapI w b n f) : b < w.heap.size := by obtain ⟨D,h,-⟩ := h;exact h.lt
theorem MapI.mono (h : MapI w b n f) {m : Nat} (hm : n ≤ m) : MapI w b m f := by obtain ⟨D,h,h2⟩ := h;exact ⟨D,h.mono hm,h2⟩
theorem MapI.keeps {S : List Nat} (h : MapI w b n f) (k : Keeps w w' S) (hn : b ∉ S) : MapI w' b n f := by
 obtain ⟨D,⟨es,clock,hb,r⟩,h2⟩ := h
 exact ⟨D,⟨es,clock,(k.block b (Array.getElem?_eq_some_iff.1 hb).1 hn).trans hb,r⟩,h2⟩
theorem MapI.made (w : World) : MapI (w.alloc (.map #[] 0)) w.heap.size 0 (fun _ => none) :=
 ⟨_,World.ownsMap_made w _ _ _,fun q kl _ _ => ⟨rfl,rfl⟩⟩

theorem MapI.look (h : MapI w b n f) (hq : IkWf q) : (Instr.lookup 256 (.map (some b)) (ikey q) false).run Tryz.prog w = .ok (.int .i64 ((f q).getD 0)) w := by
 obtain ⟨D,h,h2⟩ := h
 obtain ⟨kl,hk⟩ := ikey_lit hq
 obtain ⟨c,hr,ha,-⟩ := h.lookup_int (t := 256) (q := .i64) Tryz.ikeyed Tryz.underlying256 Tryz.underlying3 (zeroInt w) hk
 rw [(h2 q kl hq hk).2] at ha
 have e : (f q).getD 0 = c := by simpa using ha
 rw [hr,e]
theorem MapI.look_ok (h : MapI w b n f) (hq : IkWf q) : (Instr.lookup 256 (.map (some b)) (ikey q) true).run Tryz.prog w = .ok (.tuple #[.int .i64 ((f q).getD 0),.bool (f q).isSome]) w := by
 obtain ⟨D,h,h2⟩ := h
 obtain ⟨kl,hk⟩ := ikey_lit hq
 obtain ⟨v,ps,hr,hv⟩ := h.look_ok (t := 256) Tryz.ikeyed Tryz.underlying256 (zeroInt w) (plainElem_int Tryz.underlying3 (by decide)) hk
 obtain ⟨c,rfl,e,-⟩ := plainElem_int_inv Tryz.underlying3 hv
 rw [(h2 q kl hq hk).2] at e
 have e' : (f q).getD 0 = c := by simpa using congrArg Prod.fst e
 rw [hr,(h2 q kl hq hk).1,e']

theorem MapI.of_put {D : DataW Unit} {kl : Lit} {v : Int} {m : Nat} (K : w'.ownsMap Tryz.prog 3 (plainElem Tryz.prog 3) b m (D.put kl (.lit (.int .i64 v)))) (hq : IkWf q) (hk : keyOf Tryz.prog 3 (ikey q) = some kl)
  (hD : Maps.IsMap D)
  (h2 : ∀ q kl,IkWf q → keyOf Tryz.prog 3 (ikey q) = some kl → Maps.has D kl = (f q).isSome ∧ D.atKey kl (.lit (.int .i64 0)) = .lit (.int .i64 ((f q).getD 0))) : MapI w' b m (updI f q v) := by
 refine ⟨_,K,fun r rl hr hrl => ?_⟩
 by_cases e : r = q
 ·subst e
  rw [hk] at hrl
  cases hrl
  have hkl := Tryz.ikeyed.key hk
  rw [Maps.has_put_same hD hkl,Maps.atKey_put_same hD hkl]
  simp [updI]
 ·have hne : rl ≠ kl := fun e2 => by
   subst e2
   exact e (ikey_inj (Tryz.ikeyed.inj hrl hk))
  rw [Maps.has_put_other hne,Maps.atKey_put_other hne]
  simp only [updI,if_neg e]
  exact h2 r rl hr hrl

theorem MapI.update (h : MapI w b n f) (hq : IkWf q) (v : Int) (hv : (Lit.int .i64 v).wf = true) (hn : n < maxLen) :
  ∃ w',(Instr.mapUpdate 256 (.map (some b)) (ikey q) (.int .i64 v)).run Tryz.prog w = .ok () w' ∧ MapI w' b (n + 1) (updI f q v) ∧ w.grownBy w' (some b) := by
 obtain ⟨D,h,h2⟩ := h
 obtain ⟨kl,hk⟩ := ikey_lit hq
 obtain ⟨w',hr,ho,hg⟩ := h.update (t := 256) Tryz.ikeyed Tryz.underlying256 hn hk (plainElem_int Tryz.underlying3 hv)
 exact ⟨w',hr,MapI.of_put ho hq hk h.isMap h2,hg⟩

theorem MapI.alloc (h : MapI w b n f) (o : Obj) : MapI (w.alloc o) b n f := h.keeps ((Keeps.refl w []).alloc o) (by simp)
end
end

section
open Go.RowKit

def stN (n : Int) : Int := if n = -1 then 1 else n
def sumN : List Int → Int
 | [] => 0
 | n :: l => stN n + sumN l
def okN (g : Int) (l : List Int) (sy lg : Int) : Bool := decide (0 ≤ g ∧ g ≤ lg ∧ 0 < l.length ∧ (l.length : Int) ≤ sy ∧ l.getD (l.length - 1) 0 ≠ 0 ∧ (∀ n ∈ l,-1 ≤ n) ∧ sumN l = 2 ^ g.toNat)

theorem stN_nonneg {n : Int} (h : -1 ≤ n) : 0 ≤ stN n := by unfold stN;split <;> omega
theorem stN_max {n : Int} (h : -1 ≤ n) : max n (-n) = stN n := by unfold stN;split <;> omega
theorem sumN_append (l m : List Int) : sumN (l ++ m) = sumN l + sumN m := by
 induction l with
 | nil => simp [sumN]
 | cons x l ih => simp only [List.cons_append,sumN,ih];omega
theorem sumN_nonneg {l : List Int} (h : ∀ n ∈ l,-1 ≤ n) : 0 ≤ sumN l := by
 induction l with
 | nil => simp [sumN]
 | cons x l ih =>
  have h1 := stN_nonneg (h x (by simp))
  have h2 := ih (fun n hn => h n (by simp [hn]))
  simp only [sumN];omega
theorem sumN_take {l : List Int} {k : Nat} {x : Int} (h : l[k]? = some x) : sumN (l.take (k + 1)) = sumN (l.take k) + stN x := by
 rw [take_next h,sumN_append];simp [sumN]
theorem okN_false {g : Int} {l : List Int} {sy lg : Int} (h : ¬(0 ≤ g ∧ g ≤ lg ∧ 0 < l.length ∧ (l.length : Int) ≤ sy ∧ l.getD (l.length - 1) 0 ≠ 0 ∧ (∀ n ∈ l,-1 ≤ n) ∧ sumN l = 2 ^ g.toNat)) : okN g l sy lg = false := decide_eq_false h
theorem okN_low {g : Int} {l : List Int} {sy lg : Int} {k : Nat} {x : Int} (h : l[k]? = some x) (hx : x < -1) : okN g l sy lg = false :=
 okN_false (fun ⟨_,_,_,_,_,h6,_⟩ => by have := h6 x (List.mem_of_getElem? h);omega)
theorem sumN_prefix {l : List Int} {k : Nat} (h : ∀ n ∈ l,-1 ≤ n) : sumN (l.take k) ≤ sumN l := by
 have e := sumN_append (l.take k) (l.drop k)
 rw [List.take_append_drop] at e
 have := sumN_nonneg (l := l.drop k) (fun n hn => h n (List.mem_of_mem_drop hn))
 omega
theorem okN_big {g : Int} {l : List Int} {sy lg : Int} {k : Nat} {x : Int} (h : l[k]? = some x) (hx : (2 : Int) ^ g.toNat < sumN (l.take k) + stN x) : okN g l sy lg = false :=
 okN_false (fun ⟨_,_,_,_,_,h6,h7⟩ => by
  have h1 := sumN_prefix (k := k + 1) h6
  rw [sumN_take h] at h1
  omega)
theorem okN_sum {g : Int} {l : List Int} {sy lg : Int} (h1 : 0 ≤ g) (h2 : g ≤ lg) (h3 : 0 < l.length) (h4 : (l.length : Int) ≤ sy) (h5 : l.getD (l.length - 1) 0 ≠ 0) (h6 : ∀ n ∈ l,-1 ≤ n) : okN g l sy lg = decide (sumN l = 2 ^ g.toNat) :=
 decide_eq_decide.2 ⟨fun h => h.2.2.2.2.2.2,fun h => ⟨h1,h2,h3,h4,h5,h6,h⟩⟩
theorem pow9 {g : Int} (h : g ≤ 9) : (1 : Int) ≤ 2 ^ g.toNat ∧ (2 : Int) ^ g.toNat ≤ 512 := by
 obtain ⟨m,hm⟩ : ∃ m,g.toNat = m := ⟨_,rfl⟩
 have hm9 : m ≤ 9 := by omega
 rw [hm]
 match m,hm9 with
 | 0,_ => decide
 | 1,_ => decide
 | 2,_ => decide
 | 3,_ => decide
 | 4,_ => decide
 | 5,_ => decide
 | 6,_ => decide
 | 7,_ => decide
 | 8,_ => decide
 | 9,_ => decide

set_option maxHeartbeats 4000000 in
theorem ncheck_any (g sy lg : Int) (v : Value) (l : List Int) (w : World) (hv : RdI .i64 w v l) (hn : l.length ≤ 1000000) (hb : ∀ x ∈ l,-9223372036854775808 ≤ x ∧ x ≤ 9223372036854775807) (hg0 : 0 ≤ lg) (hg9 : lg ≤ 9) :
  Calls Tryz.prog 73 #[.agg #[.int .i64 g,v],.int .i64 sy,.int .i64 lg] w fun e w' => e = .returned (.int .i64 (if okN g l sy lg then 0 else 13)) ∧ Keeps w w' [] := by
 obtain ⟨A0,n,cp0,rfl,hnl,-⟩ := hv.form
 have k0 := (Keeps.refl w []).alloc (.cells #[.int .i64 g,.slice A0 n cp0] 27)
 have HV := Lib.hid (hv.keeps k0)
 have HN := Lib.hid hnl
 have HB := Lib.hid hb
 have hn' : n ≤ 1000000 := by omega
 obtain ⟨E,hE⟩ : ∃ E : Int,(if okN g l sy lg then 0 else 13) = E := ⟨_,rfl⟩
 have HE := Lib.hid hE
 have HE0 : Hid (okN g l sy lg = false → E = 13) := fun h => by rw [← HE.out,h];rfl
 rw [hE]
 clear hv hnl hb hn hE
 obtain ⟨R1,e1⟩ : ∃ R,decide (g < 0) = R := ⟨_,rfl⟩
 obtain ⟨R2,e2⟩ : ∃ R,decide (lg < g) = R := ⟨_,rfl⟩
 have hmin : ¬ (9 < lg) := by omega
 by_cases hn0 : n = 0
 ·subst hn0
  have hno : Hid (E = 13) := HE0.out (okN_false (fun h => by have := HN.out;omega))
  go_enter Tryz.func73,Tryz.ntmps73
  go_wp2_with fail
  all_goals
   go_ret
   exact ⟨by rw [hno.out];rfl,k0⟩
 obtain ⟨m,rfl⟩ : ∃ m,n = m + 1 := ⟨n - 1,by omega⟩
 obtain ⟨y,hy⟩ : ∃ y,l[m]? = some y := ⟨_,List.getElem?_eq_getElem (by have := HN.out;omega)⟩
 have HY : Hid (l.getD (l.length - 1) 0 = y) := by
  show _ = _
  rw [← HN.out,Nat.add_sub_cancel,List.getD_eq_getElem?_getD,hy];rfl
 obtain ⟨bb,o,rfl,hbb,hc⟩ := HV.out.at hy
 have hcap := HV.out.cap
 obtain ⟨R4,e4⟩ : ∃ R,decide (sy < ((m : Int) + 1)) = R := ⟨_,rfl⟩
 obtain ⟨R5,e5⟩ : ∃ R,(y == 0) = R := ⟨_,rfl⟩
 have HX : Hid (R1 = true ∨ R2 = true ∨ R4 = true ∨ R5 = true → E = 13) := fun h => HE0.out (okN_false (fun q => by
  have hl := HN.out
  obtain ⟨q1,q2,q3,q4,q5,-,-⟩ := q
  rw [HY.out] at q5
  rcases h with h | h | h | h
  ·rw [h] at e1;simp at e1;omega
  ·rw [h] at e2;simp at e2;omega
  ·rw [h] at e4;simp at e4;omega
  ·rw [h] at e5;simp at e5;exact q5 e5))
 have HG : Hid (¬ R1 = true → ¬ R2 = true → ¬ R4 = true → ¬ R5 = true → 0 ≤ g ∧ g ≤ lg ∧ (∀ (h6 : ∀ n ∈ l,-1 ≤ n),E = if sumN l = 2 ^ g.toNat then 0 else 13)) := fun h1 h2 h4 h5 => by
  have a1 : 0 ≤ g := by rw [← e1] at h1;simp at h1;omega
  have a2 : g ≤ lg := by rw [← e2] at h2;simp at h2;omega
  have a4 : (l.length : Int) ≤ sy := by rw [← e4] at h4;simp at h4;have := HN.out;omega
  have a5 : y ≠ 0 := by rw [← e5] at h5;simpa using h5
  refine ⟨a1,a2,fun h6 => ?_⟩
  rw [← HE.out,okN_sum a1 a2 (by have := HN.out;omega) a4 (by rw [HY.out];exact a5) h6]
  simp
 clear hy
 have hz0 : ((m : Int) + 1 == 0) = false := by simp;omega
 by_cases hgr : ¬ (0 ≤ g ∧ g ≤ lg)
 ·go_enter Tryz.func73,Tryz.ntmps73
  go_wp2_with fail
  all_goals first
   | (go_ret;exact ⟨by rw [HX.out (by simp [*])];rfl,k0⟩)
   | (exfalso;obtain ⟨q1,q2,-⟩ := HG.out (by simp_all) (by simp_all) (by simp_all) (by simp_all);exact hgr ⟨q1,q2⟩)
 replace hgr := Classical.not_not.1 hgr
 have hR1 : R1 = false := by rw [← e1];simp;omega
 have hR2 : R2 = false := by rw [← e2];simp;omega
 have hsh : ∀ w1 : World,(Op.shift .shl .i64 1 .i64 g).run Tryz.prog w1 = .ok (.int .i64 (2 ^ g.toNat)) w1 := by
  obtain ⟨q1,q2⟩ := hgr
  rcases (by omega : g = 0 ∨ g = 1 ∨ g = 2 ∨ g = 3 ∨ g = 4 ∨ g = 5 ∨ g = 6 ∨ g = 7 ∨ g = 8 ∨ g = 9) with rfl | rfl | rfl | rfl | rfl | rfl | rfl | rfl | rfl | rfl
  all_goals (intro w1;rfl)
 obtain ⟨p1,p2⟩ := pow9 (g := g) (by omega)
 obtain ⟨P2,hP2⟩ : ∃ P : Int,P = 2 ^ g.toNat := ⟨_,rfl⟩
 have HP := Lib.hid hP2
 rw [← hP2] at hsh p1 p2
 subst hR1 hR2
 clear hP2 hgr
 go_enter Tryz.func73,Tryz.ntmps73
 go_wp2_with fail
 all_goals first
  | (go_ret;exact ⟨by rw [HX.out (by simp [*])];rfl,k0⟩)
  | skip
 have HEE : Hid (∀ (h6 : ∀ n ∈ l,-1 ≤ n),E = if sumN l = P2 then 0 else 13) := fun h6 => by
  rw [HP.out];exact (HG.out (by simp) (by simp) ‹_› (by simp_all)).2.2 h6
 clear HX HG e1 e2 e4 e5 HY hc hz0
 generalize hW0 : (w.alloc (.cells #[.int .i64 g,.slice (some ⟨bb,o,none⟩) (m + 1) cp0] 27)) = W0 at *
 clear hW0
 go_loopw [7,50] (fun s7 s50 wr => ∃ k : Nat,k ≤ m + 1 ∧ s7 = .int .i64 (P2 - sumN (l.take k)) ∧ s50 = .int .i64 k ∧ wr = W0 ∧ Hid (∀ x ∈ l.take k,-1 ≤ x) ∧ Hid (sumN (l.take k) ≤ P2)) (fun _ s50 _ => m + 1 - (intOf s50).toNat)
 case atStart => exact ⟨0,Nat.zero_le _,by simp [sumN],rfl,rfl,by show ∀ x ∈ _,_;simp,by show _ ≤ _;simp [sumN];omega⟩
 case round =>
  obtain ⟨k,hk,rfl,rfl,rfl,hge,hle⟩ := hrel
  by_cases hlt : k < m + 1
  ·obtain ⟨x,hx⟩ : ∃ x,l[k]? = some x := ⟨_,List.getElem?_eq_getElem (by have := HN.out;omega)⟩
   obtain ⟨bb',o',e',hbb',hcx⟩ := HV.out.at hx
   cases e'
   have hkn : (k : Int) < (m : Int) + 1 := by omega
   have hk0 : (0 : Int) ≤ (k : Int) := Int.natCast_nonneg _
   obtain ⟨b1,b2⟩ := HB.out x (List.mem_of_getElem? hx)
   have HXg := Lib.hid hx
   clear hx
   have hle' := hle.out
   rcases (by omega : x < -1 ∨ x = -1 ∨ 0 ≤ x) with h3 | h3 | h3
   ·have gl : decide (x < -1) = true := by simpa using h3
    have F13 : Hid (E = 13) := HE0.out (okN_low HXg.out h3)
    clear h3
    go_wp2_with fail
    go_ret
    exact ⟨by rw [F13.out];rfl,k0⟩
   ·subst h3
    have gl : decide ((-1) < -1) = false := by simp;try omega
    have hmx : (-1 : Int) ≤ 1 := by omega
    have hst : stN (-1) = 1 := by unfold stN;split <;> omega
    by_cases hbig : P2 - sumN (l.take k) < 1
    ·have gb : decide (P2 - sumN (l.take k) < 1) = true := by simpa using hbig
     have F13 : Hid (E = 13) := HE0.out (okN_big HXg.out (by rw [hst,← HP.out];omega))
     clear hst hbig
     go_wp2_with fail
     go_ret
     exact ⟨by rw [F13.out];rfl,k0⟩
    ·have gb : decide (P2 - sumN (l.take k) < 1) = false := by simpa using hbig
     have NS := sumN_take HXg.out
     rw [hst] at NS
     have hs0 := sumN_nonneg hge.out
     have hw2 : wrap64 (P2 - sumN (l.take k) - 1) = P2 - sumN (l.take k) - 1 := IntWalk.wrap64_in _ ⟨by omega,by omega⟩
     have NG : Hid (∀ y ∈ l.take (k + 1),-1 ≤ y) := by
      show ∀ y ∈ _,_
      rw [take_next HXg.out]
      intro y hy
      rcases List.mem_append.1 hy with hy | hy
      ·exact hge.out y hy
      ·rw [List.mem_singleton.1 hy];omega
     have NS' := Lib.hid NS
     have NL : Hid (sumN (l.take (k + 1)) ≤ P2) := by show _ ≤ _;rw [NS];omega
     clear hst hs0 NS hbig
     generalize sumN (l.take k) = SK at *
     go_wp2_with fail
     go_roundw
     case rel => exact ⟨k + 1,by omega,by rw [NS'.out];(congr 1;omega),by go_num,(by first | rfl | trivial),NG,NL⟩
     case measure => simp [intOf];omega
   ·skip
    have gl : decide (x < -1) = false := by simp;try omega
    have hw1 : wrap64 (-x) = -x := IntWalk.wrap64_in _ ⟨by omega,by omega⟩
    have hmx : ¬ (x < -x) := by omega
    have hst : stN x = x := by unfold stN;split <;> omega
    by_cases hbig : P2 - sumN (l.take k) < x
    ·have gb : decide (P2 - sumN (l.take k) < x) = true := by simpa using hbig
     have F13 : Hid (E = 13) := HE0.out (okN_big HXg.out (by rw [hst,← HP.out];omega))
     clear hst hbig
     go_wp2_with fail
     go_ret
     exact ⟨by rw [F13.out];rfl,k0⟩
    ·have gb : decide (P2 - sumN (l.take k) < x) = false := by simpa using hbig
     have NS := sumN_take HXg.out
     rw [hst] at NS
     have hs0 := sumN_nonneg hge.out
     have hw2 : wrap64 (P2 - sumN (l.take k) - x) = P2 - sumN (l.take k) - x := IntWalk.wrap64_in _ ⟨by omega,by omega⟩
     have NG : Hid (∀ y ∈ l.take (k + 1),-1 ≤ y) := by
      show ∀ y ∈ _,_
      rw [take_next HXg.out]
      intro y hy
      rcases List.mem_append.1 hy with hy | hy
      ·exact hge.out y hy
      ·rw [List.mem_singleton.1 hy];omega
     have NS' := Lib.hid NS
     have NL : Hid (sumN (l.take (k + 1)) ≤ P2) := by show _ ≤ _;rw [NS];omega
     clear hst hs0 NS hbig
     generalize sumN (l.take k) = SK at *
     go_wp2_with fail
     go_roundw
     case rel => exact ⟨k + 1,by omega,by rw [NS'.out];(congr 1;omega),by go_num,(by first | rfl | trivial),NG,NL⟩
     case measure => simp [intOf];omega
  ·have : k = m + 1 := by omega
   subst this
   have hT : l.take (m + 1) = l := List.take_of_length_le (by have := HN.out;omega)
   rw [hT] at hge hle ⊢
   have F := Lib.hid (HEE.out hge.out)
   have hkn : ¬ ((m : Int) + 1 < (m : Int) + 1) := by omega
   by_cases hq : sumN l = P2
   ·have gq : (P2 - sumN l != 0) = false := by simp;omega
    rw [if_pos hq] at F
    clear hq hT
    generalize sumN l = SL at *
    go_wp2_with fail
    go_ret
    exact ⟨by rw [F.out];rfl,k0⟩
   ·have gq : (P2 - sumN l != 0) = true := by simp;omega
    rw [if_neg hq] at F
    clear hq hT
    generalize sumN l = SL at *
    go_wp2_with fail
    go_ret
    exact ⟨by rw [F.out];rfl,k0⟩
end

section
def lowsK (norm : List Int) (k : Nat) : List Nat := (List.range k).filter (fun s => norm.getD s 0 == -1)
def othersK (norm : List Int) (k : Nat) : List Nat := (List.range k).flatMap fun s => List.replicate (norm.getD s 0).toNat s
theorem lowsK_all (norm : List Int) : lowsK norm norm.length = lowsL norm := rfl
theorem othersK_all (norm : List Int) : othersK norm norm.length = othersL norm := rfl
theorem getD_some {norm : List Int} {k : Nat} {x : Int} (h : norm[k]? = some x) : norm.getD k 0 = x := by
 rw [List.getD_eq_getElem?_getD,h];rfl
theorem lowsK_yes {norm : List Int} {k : Nat} (h : norm[k]? = some (-1)) : lowsK norm (k + 1) = lowsK norm k ++ [k] := by
 have e := getD_some h
 simp only [lowsK,List.range_succ,List.filter_append,List.filter_cons,List.filter_nil,e]
 rfl
theorem lowsK_no {norm : List Int} {k : Nat} {x : Int} (h : norm[k]? = some x) (hx : x ≠ -1) : lowsK norm (k + 1) = lowsK norm k := by
 have e := getD_some h
 have e2 : (x == -1) = false := by simpa using hx
 simp only [lowsK,List.range_succ,List.filter_append,List.filter_cons,List.filter_nil,e,e2]
 simp
theorem othersK_next {norm : List Int} {k : Nat} {x : Int} (h : norm[k]? = some x) : othersK norm (k + 1) = othersK norm k ++ List.replicate x.toNat k := by
 have e := getD_some h
 simp only [othersK,List.range_succ,List.flatMap_append,List.flatMap_cons,List.flatMap_nil,List.append_nil,e]
theorem places_len {norm : List Int} (h : ∀ n ∈ norm,-1 ≤ n) : ∀ {k : Nat},k ≤ norm.length → ((lowsK norm k).length : Int) + ((othersK norm k).length : Int) = sumN (norm.take k)
 | 0,_ => by simp [lowsK,othersK,sumN]
 | k + 1,hk => by
  obtain ⟨x,hx⟩ : ∃ x,norm[k]? = some x := ⟨_,List.getElem?_eq_getElem (by omega)⟩
  have ih := places_len h (k := k) (by omega)
  have h1 := h x (List.mem_of_getElem? hx)
  rw [sumN_take hx,othersK_next hx,List.length_append,List.length_replicate]
  by_cases hq : x = -1
  ·subst hq
   rw [lowsK_yes hx,List.length_append,List.length_singleton,show stN (-1) = 1 from rfl]
   have : ((-1 : Int)).toNat = 0 := rfl
   omega
  ·rw [lowsK_no hx hq,show stN x = x from if_neg hq]
   omega
theorem lowsK_lt {norm : List Int} {k s : Nat} (h : s ∈ lowsK norm k) : s < k := List.mem_range.1 (List.mem_filter.1 h).1
theorem othersK_lt {norm : List Int} {k s : Nat} (h : s ∈ othersK norm k) : s < k := by
 obtain ⟨i,hi,hs⟩ := List.mem_flatMap.1 h
 rw [(List.mem_replicate.1 hs).2]
 exact List.mem_range.1 hi
def hasA (S : Nat) (lows : List Nat) : Int → Option Int := fun p => if (S : Int) - (lows.length : Int) ≤ p ∧ p < (S : Int) then some ((lows.getD (S - 1 - p.toNat) 0 : Nat) : Int) else none
theorem hasA_nil (S : Nat) : hasA S [] = fun _ => none := by
 funext p
 unfold hasA
 rw [if_neg]
 simp
theorem hasA_snoc {S s : Nat} {lows : List Nat} (h : lows.length < S) : hasA S (lows ++ [s]) = updI (hasA S lows) ((S : Int) - 1 - (lows.length : Int)) (s : Int) := by
 funext p
 unfold updI hasA
 rw [List.length_append,List.length_singleton]
 by_cases h1 : p = (S : Int) - 1 - (lows.length : Int)
 ·rw [if_pos h1,if_pos (by omega)]
  have e : S - 1 - p.toNat = lows.length := by omega
  rw [e,List.getD_eq_getElem?_getD,List.getElem?_append_right (Nat.le_refl _),Nat.sub_self]
  rfl
 ·rw [if_neg h1]
  by_cases h2 : (S : Int) - (lows.length : Int) ≤ p ∧ p < (S : Int)
  ·rw [if_pos h2,if_pos (by omega),List.getD_eq_getElem?_getD,List.getD_eq_getElem?_getD,List.getElem?_append_left (by omega)]
  ·rw [if_neg h2,if_neg (by omega)]

def hasB (S : Nat) (lows others fr : List Nat) : Int → Option Int := fun p => if 0 ≤ p ∧ p.toNat ∈ fr then some ((others.getD (fr.idxOf p.toNat) 0 : Nat) : Int) else hasA S lows p
theorem hasB_nil (S : Nat) (lows others : List Nat) : hasB S lows others [] = hasA S lows := by
 funext p
 unfold hasB
 rw [if_neg (by simp)]
theorem hasB_snoc {S p : Nat} {lows others fr : List Nat} (h : p ∉ fr) : hasB S lows others (fr ++ [p]) = updI (hasB S lows others fr) (p : Int) ((others.getD fr.length 0 : Nat) : Int) := by
 funext q
 unfold updI hasB
 by_cases h1 : q = (p : Int)
 ·subst h1
  rw [if_pos rfl,if_pos (by simp),Int.toNat_natCast,show (fr ++ [p]).idxOf p = fr.length from by
   rw [List.idxOf_append,if_neg h]
   simp]
 ·rw [if_neg h1]
  by_cases h2 : 0 ≤ q ∧ q.toNat ∈ fr
  ·rw [if_pos h2,if_pos ⟨h2.1,List.mem_append.2 (.inl h2.2)⟩,show (fr ++ [p]).idxOf q.toNat = fr.idxOf q.toNat from by rw [List.idxOf_append,if_pos h2.2]]
  ·rw [if_neg h2,if_neg]
   intro h3
   rcases List.mem_append.1 h3.2 with h4 | h4
   ·exact h2 ⟨h3.1,h4⟩
   ·have := List.mem_singleton.1 h4
    omega
theorem hasB_some_low {S p : Nat} {lows others fr : List Nat} (h1 : S - lows.length ≤ p) (h2 : p < S) (h3 : lows.length ≤ S) : (hasB S lows others fr (p : Int)).isSome = true := by
 unfold hasB
 split
 ·rfl
 ·unfold hasA
  rw [if_pos (by omega)]
  rfl
theorem hasB_none {S p : Nat} {lows others fr : List Nat} (h1 : p < S - lows.length) (h2 : p ∉ fr) : hasB S lows others fr (p : Int) = none := by
 unfold hasB
 rw [if_neg (by rintro ⟨-,h⟩;exact h2 (by simpa using h))]
 unfold hasA
 rw [if_neg (by omega)]

theorem mem_free {s top k p : Nat} : p ∈ freeN s top k ↔ (∃ j,j < k ∧ visitN s j = p) ∧ p < top := by
 unfold freeN
 rw [List.mem_filter,List.mem_map]
 simp only [List.mem_range,decide_eq_true_eq]
theorem visit_fresh {g top k : Nat} (h : g ≤ 9) (hk : k < 2 ^ g) : visitN (2 ^ g) k ∉ freeN (2 ^ g) top k := fun hm => by
 obtain ⟨⟨j,hj,e⟩,-⟩ := mem_free.1 hm
 have := visit_inj h (by omega) hk e
 omega
theorem free_prefix {s top k m : Nat} (h : k ≤ m) : freeN s top k <+: freeN s top m := by
 obtain ⟨d,rfl⟩ := Nat.exists_eq_add_of_le h
 induction d with
 | zero => exact List.prefix_refl _
 | succ d ih =>
  refine (ih (by omega)).trans ?_
  by_cases hv : visitN s (k + d) < top
  ·rw [← Nat.add_assoc,free_succ_yes hv]
   exact List.prefix_append _ _
  ·rw [← Nat.add_assoc,free_succ_no hv]
   exact List.prefix_refl _
theorem free_room {g top k : Nat} (h : g ≤ 9) (ht : top ≤ 2 ^ g) (hk : k < 2 ^ g) (hv : visitN (2 ^ g) k < top) : (freeN (2 ^ g) top k).length < top := by
 have h1 := (free_prefix (s := 2 ^ g) (top := top) (k := k + 1) (m := 2 ^ g) hk).length_le
 rw [free_succ_yes hv,List.length_append,List.length_singleton,free_len h ht] at h1
 omega
theorem free_all {g top p : Nat} (h : g ≤ 9) (hp : p < top) (ht : top ≤ 2 ^ g) : p ∈ freeN (2 ^ g) top (2 ^ g) := by
 obtain ⟨j,h1,h2⟩ := visit_all h (show p < 2 ^ g by omega)
 exact mem_free.2 ⟨⟨j,h1,h2⟩,hp⟩
theorem hasB_end {g p : Nat} {norm : List Int} (h : g ≤ 9) (hp : p < 2 ^ g) (hl : (lowsL norm).length ≤ 2 ^ g) :
  hasB (2 ^ g) (lowsL norm) (othersL norm) (freeN (2 ^ g) (2 ^ g - (lowsL norm).length) (2 ^ g)) (p : Int) = some ((placeN g norm p : Nat) : Int) := by
 unfold hasB placeN
 by_cases h1 : 2 ^ g - (lowsL norm).length ≤ p
 ·rw [if_pos h1,if_neg]
  ·unfold hasA
   rw [if_pos (by have : ((2 ^ g : Nat) : Int) = (2 ^ g : Nat) := rfl;omega)]
   simp
  ·rintro ⟨-,hm⟩
   have := (mem_free.1 hm).2
   simp at this
   omega
 ·rw [if_neg h1,if_pos]
  ·simp
  ·exact ⟨by omega,by simpa using free_all h (by omega) (by omega)⟩
theorem placesL_get {g p : Nat} {norm : List Int} (hp : p < 2 ^ g) : (placesL g norm)[p]? = some (placeN g norm p) := by
 simp [placesL,hp]
theorem placesL_len (g : Nat) (norm : List Int) : (placesL g norm).length = 2 ^ g := by simp [placesL]
theorem placeN_lt {g p : Nat} {norm : List Int} (h : g ≤ 9) (hn : 0 < norm.length) : placeN g norm p < norm.length := by
 unfold placeN
 have hget : ∀ (L : List Nat) (j : Nat),(∀ s ∈ L,s < norm.length) → L.getD j 0 < norm.length := fun L j hL => by
  rw [List.getD_eq_getElem?_getD]
  cases hj : L[j]? with
  | none => exact hn
  | some s => exact hL s (List.mem_of_getElem? hj)
 split
 ·exact hget _ _ (fun s hs => lowsK_lt (norm := norm) hs)
 ·exact hget _ _ (fun s hs => othersK_lt (norm := norm) hs)
end

section
open Go.RowKit Go.ChangeMaps Go.MapKept Go.Maps

def MapZ (w : World) (b n : Nat) (f : Int → Option Int) : Prop :=
 ∃ D : DataW Unit,w.ownsMap Tryz.prog 3 (plainElem Tryz.prog 3) b n D ∧
  (∀ q kl,IkWf q → keyOf Tryz.prog 3 (ikey q) = some kl → Maps.has D kl = (f q).isSome ∧ D.atKey kl (.lit (.int .i64 0)) = .lit (.int .i64 ((f q).getD 0))) ∧ Maps.size D = n
section
variable {w w' : World} {b n : Nat} {f : Int → Option Int} {q : Int}
theorem MapZ.toI (h : MapZ w b n f) : MapI w b n f := by obtain ⟨D,h1,h2,-⟩ := h;exact ⟨D,h1,h2⟩
theorem MapZ.made (w : World) : MapZ (w.alloc (.map #[] 0)) w.heap.size 0 (fun _ => none) :=
 ⟨_,World.ownsMap_made w _ _ _,(fun q kl _ _ => ⟨rfl,rfl⟩),rfl⟩
theorem MapZ.keeps {S : List Nat} (h : MapZ w b n f) (k : Keeps w w' S) (hn : b ∉ S) : MapZ w' b n f := by
 obtain ⟨D,⟨es,clock,hb,r⟩,h2⟩ := h
 exact ⟨D,⟨es,clock,(k.block b (Array.getElem?_eq_some_iff.1 hb).1 hn).trans hb,r⟩,h2⟩
theorem MapZ.len (h : MapZ w b n f) (ty : TypeId) : (Builtin.len_ #[256] ty #[.map (some b)]).run Tryz.prog w = .ok (.int .i64 (n : Int)) w := by
 obtain ⟨D,h1,-,h3⟩ := h
 rw [h1.len Tryz.underlying256 ty,h3]
theorem MapZ.update (h : MapZ w b n f) (hq : IkWf q) (v : Int) (hv : (Lit.int .i64 v).wf = true) (hn : n < maxLen) (hf : f q = none) :
  ∃ w',(Instr.mapUpdate 256 (.map (some b)) (ikey q) (.int .i64 v)).run Tryz.prog w = .ok () w' ∧ MapZ w' b (n + 1) (updI f q v) ∧ w.grownBy w' (some b) := by
 obtain ⟨D,h,h2,h3⟩ := h
 obtain ⟨kl,hk⟩ := ikey_lit hq
 obtain ⟨w',hr,ho,hg⟩ := h.update (t := 256) Tryz.ikeyed Tryz.underlying256 hn hk (plainElem_int Tryz.underlying3 hv)
 have hI := MapI.of_put ho hq hk h.isMap h2
 refine ⟨w',hr,⟨_,ho,?_,?_⟩,hg⟩
 ·obtain ⟨D',ho',h2'⟩ := hI
  intro r rl hr hrl
  by_cases e : r = q
  ·subst e
   rw [hk] at hrl
   cases hrl
   have hkl := Tryz.ikeyed.key hk
   rw [Maps.has_put_same h.isMap hkl,Maps.atKey_put_same h.isMap hkl]
   simp [updI]
  ·have hne : rl ≠ kl := fun e2 => by
    subst e2
    exact e (ikey_inj (Tryz.ikeyed.inj hrl hk))
   rw [Maps.has_put_other hne,Maps.atKey_put_other hne]
   simp only [updI,if_neg e]
   exact h2 r rl hr hrl
 ·rw [size_put (h.tidy Tryz.ikeyed),(h2 q kl hq hk).1,hf,h3]
  rfl
end
theorem ik_small {q : Int} (h0 : -1000000 ≤ q) (h1 : q ≤ 1000000) : IkWf q := by
 show (Lit.int .i64 q).wf = true
 simp [Lit.wf,IntKind.min,IntKind.max,IntKind.signed,IntKind.bits]
 omega
end

section
open Go.RowKit

attribute [local go_sem] Oper.semAt_some

theorem step_any (s : Nat) (w : World) (h1 : 1 ≤ s) (h2 : s ≤ 512) :
  Calls Tryz.prog 223 #[.int .i64 s] w fun e w' => e = .returned (.int .i64 (stepN s : Nat)) ∧ w = w' := by
 have hmx : min (max (s : Int) 1) 512 = (s : Int) := by omega
 by_cases h : s < 16
 ·have hl : (s : Int) < 16 := by omega
  have e : stepN s = 1 := if_pos h
  rw [e]
  clear h e
  go_enter Tryz.func223,Tryz.ntmps223
  go_wp2_with fail
  go_ret
  exact ⟨rfl,rfl⟩
 ·have hl : decide ((s : Int) < 16) = false := decide_eq_false (by omega)
  have e : stepN s = s / 2 + s / 8 + 3 := if_neg h
  rw [e]
  obtain ⟨a,ha⟩ : ∃ a : Nat,s / 2 = a := ⟨_,rfl⟩
  obtain ⟨b,hb⟩ : ∃ b : Nat,s / 8 = b := ⟨_,rfl⟩
  have ha' : (s : Int) / 2 = (a : Int) := by omega
  have hb' : (s : Int) / 8 = (b : Int) := by omega
  rw [ha,hb]
  have hab : a ≤ 256 ∧ b ≤ 64 := by omega
  obtain ⟨ha2,hb2⟩ := hab
  clear h e ha hb
  go_enter Tryz.func223,Tryz.ntmps223
  go_wp2_with fail
  go_ret
  exact ⟨ret_int (by simp),rfl⟩

theorem turn_any (s : Nat) (w : World) : Calls Tryz.prog 221 #[.int .i64 s] w fun e w' => e = .returned (.func (.func 222) #[] #[.pointer (some ⟨w.heap.size,0,none⟩)]) ∧ w' = w.alloc (.cells #[.int .i64 s] 3) := by
 have hmf : ∀ (fn : Fn) (first cap : Array Value) (w : World),(Instr.makeFunc fn first cap).run Tryz.prog w = .ok (.func fn first cap) w := fun _ _ _ _ => rfl
 go_enter Tryz.func221,Tryz.ntmps221
 go_wp2_with fail
 go_ret
 exact ⟨rfl,rfl⟩

abbrev encI (x : Int) : Array Value := #[.int .i64 x]
def visitL (s k : Nat) : List Int := (List.range k).map fun j => ((visitN s j : Nat) : Int)
theorem visitL_succ (s k : Nat) : visitL s (k + 1) = visitL s k ++ [((visitN s k : Nat) : Int)] := by simp [visitL,List.range_succ]
theorem visitL_len (s k : Nat) : (visitL s k).length = k := by simp [visitL]
theorem visitL_pre {s k m : Nat} (h : k ≤ m) : visitL s k <+: visitL s m := by
 obtain ⟨d,rfl⟩ := Nat.exists_eq_add_of_le h
 induction d with
 | zero => exact List.prefix_refl _
 | succ d ih =>
  refine (ih (by omega)).trans ?_
  rw [← Nat.add_assoc,visitL_succ]
  exact List.prefix_append _ _

set_option maxHeartbeats 2000000 in
theorem turn1_seq (bs s : Nat) (w : World) (h1 : 1 ≤ s) (h2 : s ≤ 512) (hb : Blk w bs #[.int .i64 s] 3) :
  SeqB Tryz.prog 222 #[.pointer (some ⟨bs,0,none⟩)] encI (fun k => k ≠ bs)
   (fun ys => ys = visitL s s) (fun pre => pre <+: visitL s s) w := by
 intro lo C J Jx W hW hC hJ hJx hY h0
 have hKW := Keeps.of_below hW
 have hb0 := hb.keeps hKW (by simp)
 have HY := Lib.hid hY
 have HJ := Lib.hid hJ
 have HC := Lib.hid hC
 have HST := Lib.hid (fun w1 => step_any s w1 h1 h2)
 clear hb hY hJ hJx hC hW hKW
 refine callsIn_of_wp Tryz.func222 rfl trivial ?_ rfl
 simp only [Tryz.ntmps222,List.size_toArray,List.length_cons,List.length_nil,Nat.reduceAdd,Nat.reduceSub,Array.replicate_succ,Array.replicate_zero,List.push_toArray,List.append_toArray,List.nil_append,List.cons_append]
 obtain ⟨c0,-⟩ := hb0.one
 have hlt0 := hb0.lt
 gi_wp2
 clear c0
 gi_loopw [5] (fun s5 wr => ∃ k : Nat,k ≤ s ∧ s5 = .int .i64 k ∧ Blk wr bs #[.int .i64 s] 3 ∧ Hid (J (visitL s k) wr)) (fun s5 _ => s - (intOf s5).toNat)
 case atStart => exact ⟨0,Nat.zero_le _,rfl,hb0,h0⟩
 case round =>
  clear hb0
  obtain ⟨k,hk,rfl,hbk,hJs⟩ := hrel
  obtain ⟨c0,-⟩ := hbk.one
  by_cases hlt : k < s
  ·have hkk : (k : Int) < (s : Int) := by omega
   obtain ⟨T,hT⟩ : ∃ T,stepN s = T := ⟨_,rfl⟩
   have hT8 : T ≤ 512 := by rw [← hT];unfold stepN;split <;> omega
   have hkT : k * T ≤ 512 * 512 := Nat.mul_le_mul (by omega) hT8
   obtain ⟨V,hV⟩ : ∃ V,visitN s k = V := ⟨_,rfl⟩
   have hVe : (k : Int) * (T : Int) % (s : Int) = (V : Int) := by rw [← hV,← hT,← Int.natCast_mul];rfl
   have hsp : visitL s (k + 1) = visitL s k ++ [(V : Int)] := by rw [visitL_succ,hV]
   have HSP := Lib.hid (show visitL s k ++ [(V : Int)] <+: visitL s s by rw [← hsp];exact visitL_pre hlt)
   have hJd : J (visitL s k) wr.drew := HJ.out _ _ _ hJs.out (Below.refl _ wr).drew
   obtain ⟨fn,tmps,assign,body,hy,hR⟩ := HY.out (visitL s k) (V : Int) wr.drew hJd HSP.out
   have hR2 := (round_any (m := 8) hR).mono (R' := fun e W' => ∃ b : Bool,e = .returned (.bool b) ∧ Hid ((b = true → J (visitL s (k + 1)) W') ∧ (b = false → Jx (visitL s k ++ [(V : Int)]) W') ∧ Keeps wr.drew W' C)) (by
    rintro e W3 (⟨rfl,hJ3,hk3⟩ | ⟨rfl,hJx3,hk3⟩)
    ·exact ⟨true,rfl,(fun _ => by rw [hsp];exact hJ3),(fun h => by cases h),hk3⟩
    ·exact ⟨false,rfl,(fun h => by cases h),(fun _ => hJx3),hk3⟩)
   rw [hT] at HST
   dsimp only [encI] at hy
   have HB := Lib.hid hbk
   have HSPE := Lib.hid hsp
   have hmix : Tryz.prog.follows .mixedOrders = true := by kernel_rfl
   clear hbk hsp hV hT hR hJd
   gi_wp2
   gi_region_with (first | (refine ⟨trivial,?_⟩;gi_at_call 223;refine (callsIn_wide.2 (HST.out _)).mono ?_;rintro e w' ⟨rfl,rfl⟩) | (refine hR2.mono ?_;rintro e W3 ⟨b,rfl,hres⟩))
   all_goals
    cases b with
    | true =>
     have hb3 := HB.out.drew.keeps hres.out.2.2 (fun hm => (HC.out _ hm).2 rfl)
     have hJ3 := Lib.hid (hres.out.1 rfl)
     clear hres
     gi_wp2
     go_roundw
     case rel => exact ⟨k + 1,by omega,by go_num,hb3,hJ3⟩
     case measure => simp [intOf];omega
    | false =>
     have hJ3 := Lib.hid (hres.out.2.1 rfl)
     clear hres
     gi_wp2
     first
      | (simp only [Exit.noGoto];go_end0;exact ⟨⟨_,rfl⟩,.inr ⟨_,HSP.out,hJ3.out⟩⟩)
      | exact bodyPost_ret (v := .tuple #[]) (by simp [results,Tryz.results222]) rfl ⟨⟨_,rfl⟩,.inr ⟨_,HSP.out,hJ3.out⟩⟩
  ·have hkk : decide ((k : Int) < (s : Int)) = false := decide_eq_false (by omega)
   have hks : k = s := by omega
   rw [hks] at hJs
   clear hks
   gi_wp2
   go_end0
   exact ⟨⟨_,rfl⟩,.inl ⟨_,rfl,hJs.out⟩⟩
end

section
def bitsN (v : Nat) : Nat → List Bool
 | 0 => []
 | n + 1 => decide (v % 2 = 1) :: bitsN (v / 2) n
def valL : List Bool → Nat
 | [] => 0
 | b :: l => (if b then 1 else 0) + 2 * valL l
def rowBits : List Int → List Bool
 | [] => []
 | x :: B => bitsN x.toNat 8 ++ rowBits B

theorem bitsN_len (v n : Nat) : (bitsN v n).length = n := by
 induction n generalizing v with
 | zero => rfl
 | succ n ih => simp [bitsN,ih]
theorem valL_append (a b : List Bool) : valL (a ++ b) = valL a + 2 ^ a.length * valL b := by
 induction a with
 | nil => simp [valL]
 | cons x a ih =>
  simp only [List.cons_append,valL,ih,List.length_cons,Nat.pow_succ]
  have : 2 * (2 ^ a.length * valL b) = 2 ^ a.length * 2 * valL b := by rw [Nat.mul_comm (2 ^ a.length) 2,Nat.mul_assoc]
  omega
theorem valL_lt (a : List Bool) : valL a < 2 ^ a.length := by
 induction a with
 | nil => simp [valL]
 | cons x a ih =>
  simp only [valL,List.length_cons,Nat.pow_succ]
  split <;> omega
theorem valL_bitsN (v n : Nat) : valL (bitsN v n) = v % 2 ^ n := by
 induction n generalizing v with
 | zero => simp [bitsN,valL,Nat.mod_one]
 | succ n ih =>
  have h1 : v % 2 ^ (n + 1) = v % 2 + 2 * (v / 2 % 2 ^ n) := by
   rw [Nat.pow_succ,Nat.mul_comm,Nat.mod_mul]
  simp only [bitsN,valL,ih]
  rw [h1]
  rcases Nat.mod_two_eq_zero_or_one v with h | h <;> simp [h]
theorem bitsN_drop (v n s : Nat) (h : s ≤ n) : (bitsN v n).drop s = bitsN (v / 2 ^ s) (n - s) := by
 induction s generalizing v n with
 | zero => simp
 | succ s ih =>
  obtain ⟨m,rfl⟩ : ∃ m,n = m + 1 := ⟨n - 1,by omega⟩
  simp only [bitsN,List.drop_succ_cons]
  rw [ih _ _ (by omega),Nat.div_div_eq_div_mul,Nat.pow_succ,Nat.mul_comm 2,Nat.succ_sub_succ]
theorem bitsN_take (v n k : Nat) (h : k ≤ n) : (bitsN v n).take k = bitsN v k := by
 induction k generalizing v n with
 | zero => simp [bitsN]
 | succ k ih =>
  obtain ⟨m,rfl⟩ : ∃ m,n = m + 1 := ⟨n - 1,by omega⟩
  simp only [bitsN,List.take_succ_cons]
  rw [ih _ _ (by omega)]
theorem rowBits_len (B : List Int) : (rowBits B).length = 8 * B.length := by
 induction B with
 | nil => rfl
 | cons x B ih => simp only [rowBits,List.length_append,bitsN_len,ih,List.length_cons];omega
theorem rowBits_append (A B : List Int) : rowBits (A ++ B) = rowBits A ++ rowBits B := by
 induction A with
 | nil => rfl
 | cons x A ih => simp [rowBits,ih]
theorem rowBits_drop (B : List Int) (i : Nat) : (rowBits B).drop (8 * i) = rowBits (B.drop i) := by
 induction i generalizing B with
 | zero => simp
 | succ i ih =>
  cases B with
  | nil => simp [rowBits]
  | cons x B =>
   rw [List.drop_succ_cons,← ih,rowBits,show 8 * (i + 1) = 8 + 8 * i by omega,← List.drop_drop,List.drop_left' (bitsN_len _ _)]
theorem rowBits_piece {B : List Int} {i s k : Nat} {x : Int} (h : B[i]? = some x) (hs : s + k ≤ 8) : ((rowBits B).drop (8 * i + s)).take k = bitsN (x.toNat / 2 ^ s) k := by
 have hi := (List.getElem?_eq_some_iff.1 h).1
 rw [← List.drop_drop,rowBits_drop,List.drop_eq_getElem_cons hi,(List.getElem?_eq_some_iff.1 h).2,rowBits]
 rw [List.drop_append_of_le_length (by rw [bitsN_len];omega),List.take_append_of_le_length (by rw [List.length_drop,bitsN_len];omega),bitsN_drop _ _ _ (by omega),bitsN_take _ _ _ (by omega)]
theorem take_split {α : Type} (l : List α) (a k : Nat) : l.take (a + k) = l.take a ++ (l.drop a).take k := by
 rw [← List.take_append_drop a (l.take (a + k)),List.take_take,Nat.min_eq_left (by omega),List.drop_take]
 congr 1
 rw [Nat.add_sub_cancel_left]

theorem wrapU_nat {a : Nat} (h : a < 18446744073709551616) : IntKind.u64.wrap (a : Int) = (a : Int) := by
 simp [IntKind.wrap,IntKind.signed,IntKind.bits]
 omega
theorem or_high {v got y : Nat} (hv : v < 2 ^ got) : v ||| (y * 2 ^ got) = v + 2 ^ got * y := by
 rw [Nat.or_comm,← Nat.shiftLeft_eq,← Nat.shiftLeft_add_eq_or_of_lt hv,Nat.shiftLeft_eq,Nat.mul_comm,Nat.add_comm]
theorem bit_step {v got x s k : Nat} (hv : v < 2 ^ got) (hx : x ≤ 255) (hk : got + k ≤ 64) (hk8 : k ≤ 8) :
  bits .or .u64 (v : Int) (IntKind.u64.wrap (bits .and .u64 (IntKind.u64.wrap (x : Int) / 2 ^ s) (IntKind.u64.wrap (IntKind.u64.wrap (2 ^ k) - 1)) * 2 ^ got)) = ((v + 2 ^ got * (x / 2 ^ s % 2 ^ k) : Nat) : Int) := by
 have hp : ∀ m,0 < 2 ^ m := fun m => Nat.pow_pos (by omega)
 have h64 : 2 ^ got * 2 ^ k ≤ 18446744073709551616 := by
  rw [← Nat.pow_add,show (18446744073709551616 : Nat) = 2 ^ 64 by decide]
  exact Nat.pow_le_pow_right (by omega) hk
 have hk1 : 2 ^ k ≤ 256 := by
  rw [show (256 : Nat) = 2 ^ 8 by decide]
  exact Nat.pow_le_pow_right (by omega) hk8
 have hg1 : 2 ^ got ≤ 18446744073709551616 := Nat.le_trans (Nat.le_mul_of_pos_right _ (hp k)) h64
 have e1 : IntKind.u64.wrap (x : Int) / 2 ^ s = ((x / 2 ^ s : Nat) : Int) := by rw [wrapU_nat (by omega)];simp
 have e2 : IntKind.u64.wrap (IntKind.u64.wrap (2 ^ k) - 1) = ((2 ^ k - 1 : Nat) : Int) := by
  have h1 : ((2 : Int) ^ k) = ((2 ^ k : Nat) : Int) := by simp
  have h2 := hp k
  rw [h1,wrapU_nat (by omega),show ((2 ^ k : Nat) : Int) - 1 = ((2 ^ k - 1 : Nat) : Int) by omega,wrapU_nat (by omega)]
 have hd : x / 2 ^ s ≤ x := Nat.div_le_self _ _
 rw [e1,e2,bits_and_u64_nat _ _ (by omega) (by omega),Nat.and_two_pow_sub_one_eq_mod]
 obtain ⟨y,hy⟩ : ∃ y,x / 2 ^ s % 2 ^ k = y := ⟨_,rfl⟩
 rw [hy]
 have hyk : y < 2 ^ k := by rw [← hy];exact Nat.mod_lt _ (hp k)
 have h3 : ((y : Int) * 2 ^ got) = ((y * 2 ^ got : Nat) : Int) := by simp
 have h4 : y * 2 ^ got + 2 ^ got ≤ 2 ^ got * 2 ^ k := by
  have := Nat.mul_le_mul_left (2 ^ got) hyk
  rw [Nat.mul_succ,Nat.mul_comm] at this
  exact this
 have h5 := hp got
 rw [h3,wrapU_nat (by omega),bits_or_u64_nat _ _ (by omega) (by omega),or_high hv]
end

section
open Go.RowKit

def bitsAt (B : List Int) (p n : Nat) : Nat := valL (((rowBits B).drop p).take n)
theorem bitsAt_zero (B : List Int) (p : Nat) : bitsAt B p 0 = 0 := by simp [bitsAt,valL]
theorem bitsAt_lt (B : List Int) (p n : Nat) : bitsAt B p n < 2 ^ n := by
 refine Nat.lt_of_lt_of_le (valL_lt _) (Nat.pow_le_pow_right (by omega) ?_)
 rw [List.length_take];omega
theorem bitsAt_step {B : List Int} {p got k i s : Nat} {x : Int} (hx : B[i]? = some x) (hi : p + got = 8 * i + s) (hs : s + k ≤ 8) (hl : p + got ≤ 8 * B.length) : bitsAt B p (got + k) = bitsAt B p got + 2 ^ got * (x.toNat / 2 ^ s % 2 ^ k) := by
 unfold bitsAt
 rw [take_split,valL_append,List.drop_drop,hi,rowBits_piece hx hs,valL_bitsN,List.length_take,List.length_drop,rowBits_len,Nat.min_eq_left (by omega)]

set_option maxHeartbeats 4000000 in
theorem byteOn_any (A G N V RB R : Nat) (p got n : Nat) (bs : Value) (fr to : Int) (B : List Int) (w : World) (TA TG TN TV TR TF : TypeId) (hA : Blk w A #[.int .i64 p] TA) (hG : Blk w G #[.int .i64 got] TG) (hN : Blk w N #[.int .i64 n] TN) (hV : Blk w V #[.int .u64 (bitsAt B p got : Nat)] TV)
  (hRB : Blk w RB #[.pointer (some ⟨R,0,none⟩)] TR) (hR : Blk w R #[bs,.int .i64 fr,.int .i64 to] TF) (hv : RdI .u8 w bs B) (hl : B.length ≤ 1000000) (hb : ∀ x ∈ B,0 ≤ x ∧ x ≤ 255) (hat : p + n ≤ 8 * B.length) (hgn : got < n) (hn : n ≤ 64) (hGV : G ≠ V) (hAV : A ≠ V) (hAG : A ≠ G) :
  Calls Tryz.prog 184 #[.pointer (some ⟨A,0,none⟩),.pointer (some ⟨G,0,none⟩),.pointer (some ⟨N,0,none⟩),.pointer (some ⟨V,0,none⟩),.pointer (some ⟨RB,0,none⟩)] w fun e w' =>
   ∃ k : Nat,0 < k ∧ got + k ≤ n ∧ e = .returned (.tuple #[]) ∧ Blk w' G #[.int .i64 ((got + k : Nat) : Int)] TG ∧ Blk w' V #[.int .u64 (bitsAt B p (got + k) : Nat)] TV ∧ Keeps w w' [V,G] := by
 obtain ⟨A0,m,cp0,rfl,hnl,-⟩ := hv.form
 obtain ⟨a0,a1⟩ := hA.one
 obtain ⟨g0,g1⟩ := hG.one
 obtain ⟨n0,n1⟩ := hN.one
 obtain ⟨v0,v1⟩ := hV.one
 obtain ⟨r0,r1⟩ := hRB.one
 have q0 := hR.cell 0
 simp at q0
 obtain ⟨x,hx⟩ : ∃ x,B[(p + got) / 8]? = some x := ⟨_,List.getElem?_eq_getElem (by omega)⟩
 obtain ⟨bb,o,rfl,hbb,hc⟩ := hv.at hx
 have hcap := hv.cap
 obtain ⟨xn,rfl⟩ := Int.eq_ofNat_of_zero_le (hb x (List.mem_of_getElem? hx)).1
 have hx255 : xn ≤ 255 := by have := (hb _ (List.mem_of_getElem? hx)).2;omega
 obtain ⟨s,hs⟩ : ∃ s,(p + got) % 8 = s := ⟨_,rfl⟩
 obtain ⟨i,hi⟩ : ∃ i,(p + got) / 8 = i := ⟨_,rfl⟩
 rw [hi] at hx hc
 have es : ((p : Int) + (got : Int)) % 8 = (s : Int) := by omega
 have ei : ((p : Int) + (got : Int)) / 8 = (i : Int) := by omega
 obtain ⟨K8,h8⟩ : ∃ K : Nat,(8 : Int) - (s : Int) = (K : Int) := ⟨8 - s,by omega⟩
 obtain ⟨K9,h9⟩ : ∃ K : Nat,(n : Int) - (got : Int) = (K : Int) := ⟨n - got,by omega⟩
 have hlt0 := bitsAt_lt B p got
 have HST := Lib.hid (fun k (h : s + k ≤ 8) => bitsAt_step (p := p) (got := got) (k := k) (i := i) (s := s) hx (by omega) h (by omega))
 have HM := Lib.hid (show m = B.length from hnl)
 have HBS0 : ∀ k,got + k ≤ 64 → k ≤ 8 → bits .or .u64 ((bitsAt B p got : Nat) : Int) (IntKind.u64.wrap (bits .and .u64 ((xn : Int) / 2 ^ s) (IntKind.u64.wrap (IntKind.u64.wrap (2 ^ k) - 1)) * 2 ^ got)) = ((bitsAt B p got + 2 ^ got * (xn / 2 ^ s % 2 ^ k) : Nat) : Int) := fun k h1 h2 => by
  have h := bit_step (v := bitsAt B p got) (s := s) hlt0 hx255 h1 h2
  rw [wrapU_nat (a := xn) (by omega)] at h
  exact h
 have HBS := Lib.hid HBS0
 have hi0 : (i : Int) < (m : Int) := by omega
 have hi1 : (0 : Int) ≤ (i : Int) := by omega
 clear hx hb hlt0 HBS0
 generalize hv0 : bitsAt B p got = v at *
 by_cases hlt : (K9 : Int) < (K8 : Int)
 ·have HQ := Lib.hid (HST.out K9 (by omega))
  rw [Int.toNat_natCast] at HQ
  have HBK := Lib.hid (HBS.out K9 (by omega) (by omega))
  have hcon : 0 < K9 ∧ got + K9 ≤ n := by omega
  have HCON := Lib.hid hcon
  clear hcon
  go_enter Tryz.func184,Tryz.ntmps184
  go_wp2_with fail
  go_region
  rw [HBK.out,← HQ.out]
  have k1 : Keeps w (w.setCell ⟨V,0,none⟩ (.int .u64 ((bitsAt B p (got + K9) : Nat) : Int))).drew [V,G] := ((Keeps.refl w _).setCell (.inr (by simp)) _).drew
  have bV : Blk (w.setCell ⟨V,0,none⟩ (.int .u64 ((bitsAt B p (got + K9) : Nat) : Int))).drew V #[.int .u64 ((bitsAt B p (got + K9) : Nat) : Int)] TV := by have := (hV.set 0 (.int .u64 ((bitsAt B p (got + K9) : Nat) : Int))).drew;simpa using this
  have bG : Blk (w.setCell ⟨V,0,none⟩ (.int .u64 ((bitsAt B p (got + K9) : Nat) : Int))).drew G #[.int .i64 got] TG := (hG.setOther (by dsimp only;exact hGV.symm) _).drew
  obtain ⟨w1,hw1⟩ : ∃ w1,w1 = (w.setCell ⟨V,0,none⟩ (.int .u64 ((bitsAt B p (got + K9) : Nat) : Int))).drew := ⟨_,rfl⟩
  rw [← hw1] at bV bG k1 ⊢
  clear hw1 a0 a1 g0 g1 n0 n1 v0 v1 r0 r1 q0 hc
  obtain ⟨g0,g1⟩ := bG.one
  go_wp2_with fail
  go_end0
  refine ⟨K9,HCON.out.1,HCON.out.2,rfl,?_,bV.setOther (by dsimp only;exact hGV) _,k1.setCell (.inr (by simp)) _⟩
  have := bG.set 0 (.int .i64 ((got : Int) + (K9 : Int)))
  simpa using this
 ·have HQ := Lib.hid (HST.out K8 (by omega))
  rw [Int.toNat_natCast] at HQ
  have HBK := Lib.hid (HBS.out K8 (by omega) (by omega))
  have hcon : 0 < K8 ∧ got + K8 ≤ n := by omega
  have HCON := Lib.hid hcon
  clear hcon
  go_enter Tryz.func184,Tryz.ntmps184
  go_wp2_with fail
  go_region
  rw [HBK.out,← HQ.out]
  have k1 : Keeps w (w.setCell ⟨V,0,none⟩ (.int .u64 ((bitsAt B p (got + K8) : Nat) : Int))).drew [V,G] := ((Keeps.refl w _).setCell (.inr (by simp)) _).drew
  have bV : Blk (w.setCell ⟨V,0,none⟩ (.int .u64 ((bitsAt B p (got + K8) : Nat) : Int))).drew V #[.int .u64 ((bitsAt B p (got + K8) : Nat) : Int)] TV := by have := (hV.set 0 (.int .u64 ((bitsAt B p (got + K8) : Nat) : Int))).drew;simpa using this
  have bG : Blk (w.setCell ⟨V,0,none⟩ (.int .u64 ((bitsAt B p (got + K8) : Nat) : Int))).drew G #[.int .i64 got] TG := (hG.setOther (by dsimp only;exact hGV.symm) _).drew
  obtain ⟨w1,hw1⟩ : ∃ w1,w1 = (w.setCell ⟨V,0,none⟩ (.int .u64 ((bitsAt B p (got + K8) : Nat) : Int))).drew := ⟨_,rfl⟩
  rw [← hw1] at bV bG k1 ⊢
  clear hw1 a0 a1 g0 g1 n0 n1 v0 v1 r0 r1 q0 hc
  obtain ⟨g0,g1⟩ := bG.one
  go_wp2_with fail
  go_end0
  refine ⟨K8,HCON.out.1,HCON.out.2,rfl,?_,bV.setOther (by dsimp only;exact hGV) _,k1.setCell (.inr (by simp)) _⟩
  have := bG.set 0 (.int .i64 ((got : Int) + (K8 : Int)))
  simpa using this

def gotOf (w : World) (g : Nat) : Nat := match w.cell? ⟨g,0,none⟩ with | some v => (intOf v).toNat | none => 0

set_option maxHeartbeats 4000000 in
theorem value_any (R : Nat) (p n : Nat) (bs : Value) (fr to : Int) (B : List Int) (w : World) (TF : TypeId) (hR : Blk w R #[bs,.int .i64 fr,.int .i64 to] TF) (hv : RdI .u8 w bs B) (hl : B.length ≤ 1000000) (hb : ∀ x ∈ B,0 ≤ x ∧ x ≤ 255) (hat : p + n ≤ 8 * B.length) (hn : n ≤ 64) :
  Calls Tryz.prog 154 #[.pointer (some ⟨R,0,none⟩),.int .i64 p,.int .i64 n] w fun e w' => e = .returned (.int .u64 (bitsAt B p n : Nat)) ∧ Keeps w w' [] := by
 have hmf : ∀ (fn : Fn) (first cap : Array Value) (w : World),(Instr.makeFunc fn first cap).run Tryz.prog w = .ok (.func fn first cap) w := fun _ _ _ _ => rfl
 have HBO := Lib.hid (fun w1 got (k : Keeps w w1 []) TA TG TN TV TR A G N V RB hA hG hN hV hRB hgn h1 h2 h3 => byteOn_any A G N V RB R p got n bs fr to B w1 TA TG TN TV TR TF hA hG hN hV hRB (hR.keeps k (by simp)) (hv.keeps k) hl hb hat hgn hn h1 h2 h3)
 clear hR hv hl hb hat
 go_enter Tryz.func154,Tryz.ntmps154
 go_wp2_with fail
 obtain ⟨bRB,bA,bN,bV,bG,k0⟩ : Blk (((((w.alloc (.cells #[.pointer (some ⟨R,0,none⟩)] 225)).alloc (.cells #[.int .i64 p] 3)).alloc (.cells #[.int .i64 n] 3)).alloc (.cells #[.int .u64 0] 95)).alloc (.cells #[.int .i64 0] 3)) w.heap.size #[.pointer (some ⟨R,0,none⟩)] 225 ∧ Blk (((((w.alloc (.cells #[.pointer (some ⟨R,0,none⟩)] 225)).alloc (.cells #[.int .i64 p] 3)).alloc (.cells #[.int .i64 n] 3)).alloc (.cells #[.int .u64 0] 95)).alloc (.cells #[.int .i64 0] 3)) (w.heap.size + 1) #[.int .i64 p] 3 ∧ Blk (((((w.alloc (.cells #[.pointer (some ⟨R,0,none⟩)] 225)).alloc (.cells #[.int .i64 p] 3)).alloc (.cells #[.int .i64 n] 3)).alloc (.cells #[.int .u64 0] 95)).alloc (.cells #[.int .i64 0] 3)) (w.heap.size + 1 + 1) #[.int .i64 n] 3 ∧ Blk (((((w.alloc (.cells #[.pointer (some ⟨R,0,none⟩)] 225)).alloc (.cells #[.int .i64 p] 3)).alloc (.cells #[.int .i64 n] 3)).alloc (.cells #[.int .u64 0] 95)).alloc (.cells #[.int .i64 0] 3)) (w.heap.size + 1 + 1 + 1) #[.int .u64 0] 95 ∧ Blk (((((w.alloc (.cells #[.pointer (some ⟨R,0,none⟩)] 225)).alloc (.cells #[.int .i64 p] 3)).alloc (.cells #[.int .i64 n] 3)).alloc (.cells #[.int .u64 0] 95)).alloc (.cells #[.int .i64 0] 3)) (w.heap.size + 1 + 1 + 1 + 1) #[.int .i64 0] 3 ∧ Keeps w (((((w.alloc (.cells #[.pointer (some ⟨R,0,none⟩)] 225)).alloc (.cells #[.int .i64 p] 3)).alloc (.cells #[.int .i64 n] 3)).alloc (.cells #[.int .u64 0] 95)).alloc (.cells #[.int .i64 0] 3)) [] := by
  refine ⟨((((Blk.new w _ _).alloc _).alloc _).alloc _).alloc _,?_,?_,?_,?_,(((((Keeps.refl w []).alloc _).alloc _).alloc _).alloc _).alloc _⟩
  ·have := (((Blk.new (w.alloc (.cells #[.pointer (some ⟨R,0,none⟩)] 225)) #[.int .i64 p] 3).alloc (.cells #[.int .i64 n] 3)).alloc (.cells #[.int .u64 0] 95)).alloc (.cells #[.int .i64 0] 3)
   simpa only [World.size_alloc] using this
  ·have := ((Blk.new ((w.alloc (.cells #[.pointer (some ⟨R,0,none⟩)] 225)).alloc (.cells #[.int .i64 p] 3)) #[.int .i64 n] 3).alloc (.cells #[.int .u64 0] 95)).alloc (.cells #[.int .i64 0] 3)
   simpa only [World.size_alloc] using this
  ·have := (Blk.new (((w.alloc (.cells #[.pointer (some ⟨R,0,none⟩)] 225)).alloc (.cells #[.int .i64 p] 3)).alloc (.cells #[.int .i64 n] 3)) #[.int .u64 0] 95).alloc (.cells #[.int .i64 0] 3)
   simpa only [World.size_alloc] using this
  ·have := Blk.new ((((w.alloc (.cells #[.pointer (some ⟨R,0,none⟩)] 225)).alloc (.cells #[.int .i64 p] 3)).alloc (.cells #[.int .i64 n] 3)).alloc (.cells #[.int .u64 0] 95)) #[.int .i64 0] 3
   simpa only [World.size_alloc] using this
 generalize (((((w.alloc (.cells #[.pointer (some ⟨R,0,none⟩)] 225)).alloc (.cells #[.int .i64 p] 3)).alloc (.cells #[.int .i64 n] 3)).alloc (.cells #[.int .u64 0] 95)).alloc (.cells #[.int .i64 0] 3)) = w0 at *
 obtain ⟨A,hA⟩ : ∃ A,A = w.heap.size + 1 := ⟨_,rfl⟩
 obtain ⟨N,hN⟩ : ∃ A,A = w.heap.size + 1 + 1 := ⟨_,rfl⟩
 obtain ⟨V,hV⟩ : ∃ A,A = w.heap.size + 1 + 1 + 1 := ⟨_,rfl⟩
 obtain ⟨G,hG⟩ : ∃ A,A = w.heap.size + 1 + 1 + 1 + 1 := ⟨_,rfl⟩
 rw [← hG] at bG ⊢
 rw [← hV] at bV ⊢
 rw [← hN] at bN ⊢
 rw [← hA] at bA ⊢
 have HD := Lib.hid (show G ≠ V ∧ A ≠ V ∧ A ≠ G ∧ w.heap.size < A ∧ w.heap.size < N ∧ w.heap.size < V ∧ w.heap.size < G ∧ N ≠ V ∧ N ≠ G from by omega)
 clear hA hN hV hG
 go_loopw [14] (fun s14 wr => ∃ got : Nat,got ≤ n ∧ Blk wr w.heap.size #[.pointer (some ⟨R,0,none⟩)] 225 ∧ Blk wr A #[.int .i64 p] 3 ∧ Blk wr N #[.int .i64 n] 3 ∧ Blk wr V #[.int .u64 ((bitsAt B p got : Nat) : Int)] 95 ∧ Blk wr G #[.int .i64 (got : Int)] 3 ∧ Keeps w wr []) (fun _ wr => n - gotOf wr G)
 case atStart => exact ⟨0,Nat.zero_le _,bRB,bA,bN,by rw [bitsAt_zero];exact bV,bG,k0⟩
 case round =>
  obtain ⟨got,hgn,cRB,cA,cN,cV,cG,kk⟩ := hrel
  obtain ⟨g0,g1⟩ := cG.one
  obtain ⟨n0,n1⟩ := cN.one
  by_cases hlt : got < n
  ·have hkn : (got : Int) < (n : Int) := by omega
   have hgo : gotOf wr G = got := by unfold gotOf;rw [g0];simp [intOf]
   go_wp2_with fail
   refine (HBO.out _ got kk _ _ _ _ _ A G N V w.heap.size cA cG cN cV cRB hlt HD.out.1 HD.out.2.1 HD.out.2.2.1).mono ?_
   rintro e w5 ⟨k,hk0,hkn2,rfl,dG,dV,k5⟩
   have kk5 : Keeps w w5 [] := kk.trans k5 (fun j hj hlt => by have := HD.out;simp at hj;omega)
   have dRB := cRB.keeps k5 (by have := HD.out;simp;omega)
   have dA := cA.keeps k5 (by have := HD.out;simp;omega)
   have dN := cN.keeps k5 (by have := HD.out;simp;omega)
   have hgo5 : gotOf w5 G = got + k := by unfold gotOf;rw [(dG.one).1];simp [intOf];omega
   have HGO := Lib.hid hgo
   have HGO5 := Lib.hid hgo5
   clear hgo hgo5 g0 g1 n0 n1
   go_wp2_with fail
   go_roundw
   case rel => exact ⟨got + k,hkn2,dRB,dA,dN,dV,dG,kk5⟩
   case measure => rw [HGO.out,HGO5.out];omega
  ·have : got = n := by omega
   subst this
   obtain ⟨v0,v1⟩ := cV.one
   have hlt' : ¬ ((got : Int) < (got : Int)) := by omega
   go_wp2_with fail
   refine bodyPost_ret (v := .int .u64 ((bitsAt B p got : Nat) : Int)) (by simp only [results,Tryz.results154];go_simp) rfl ⟨rfl,?_⟩
   exact kk.setCell (.inl (by have := HD.out;dsimp only;omega)) _
end

section
open Go.RowKit

structure BitR (w : World) (R g : Nat) (TF : TypeId) (B : List Int) (a b : Nat) : Prop where
 cells : ∃ bs,Blk w R #[bs,.int .i64 a,.int .i64 b] TF ∧ RdI .u8 w bs B ∧ (∀ ad n c,bs = .slice (some ad) n c → ad.block = g)
 ne : g ≠ R
 len : B.length ≤ 1000000
 bytes : ∀ x ∈ B,0 ≤ x ∧ x ≤ 255
 hab : a ≤ b
 hb : b ≤ 8 * B.length
theorem BitR.keeps {w w' : World} {R g : Nat} {TF : TypeId} {B : List Int} {a b : Nat} {S : List Nat} (h : BitR w R g TF B a b) (k : Keeps w w' S) (h1 : R ∉ S) (h2 : g ∉ S) : BitR w' R g TF B a b := by
 obtain ⟨bs,c1,c2,c3⟩ := h.cells
 exact ⟨⟨bs,c1.keeps k h1,c2.keepsS k (fun ad n cp e _ hm => h2 (c3 ad n cp e ▸ hm)),c3⟩,h.ne,h.len,h.bytes,h.hab,h.hb⟩
theorem BitR.keep {w w' : World} {R g : Nat} {TF : TypeId} {B : List Int} {a b : Nat} (h : BitR w R g TF B a b) (k : Keeps w w' []) : BitR w' R g TF B a b := h.keeps k (by simp) (by simp)

theorem rowLeft_any (R g : Nat) (TF : TypeId) (B : List Int) (a b : Nat) (w : World) (h : BitR w R g TF B a b) :
  Calls Tryz.prog 214 #[.pointer (some ⟨R,0,none⟩)] w fun e w' => e = .returned (.int .i64 ((b - a : Nat) : Int)) ∧ ∃ m,w' = w.drewN m := by
 obtain ⟨bs,c1,c2,c3⟩ := h.cells
 have hab := h.hab
 have hb := h.hb
 have hl := h.len
 have q1 := c1.cell 1
 have q2 := c1.cell 2
 simp at q1 q2
 obtain ⟨D,hD⟩ : ∃ D : Int,(b : Int) - (a : Int) = D := ⟨_,rfl⟩
 have m1 : IntKind.i64.wrap D = D := by simp [IntKind.wrap,IntKind.signed,IntKind.bits];omega
 have he : ((b - a : Nat) : Int) = D := by omega
 rw [he]
 clear c1 c2 c3 h he hab hb hl
 go_enter Tryz.func214,Tryz.ntmps214
 go_wp2_with fail
 go_quiet (fail)
 go_wp2_with fail
 go_ret
 exact ⟨rfl,_,rfl⟩

def mayE (n : Int) (r : Nat) (short : Int) : Int := if n < 0 ∨ 64 < n then 2 else if (r : Int) < n then short else 0
theorem rowMay_any (R g : Nat) (TF : TypeId) (B : List Int) (a b : Nat) (n short : Int) (w : World) (h : BitR w R g TF B a b) :
  Calls Tryz.prog 209 #[.pointer (some ⟨R,0,none⟩),.int .i64 n,.int .i64 short] w fun e w' => e = .returned (.int .i64 (mayE n (b - a) short)) ∧ ∃ m,w' = w.drewN m := by
 have HL := Lib.hid (rowLeft_any R g TF B a b w h)
 obtain ⟨r,hr⟩ : ∃ r,b - a = r := ⟨_,rfl⟩
 rw [hr] at HL ⊢
 clear h hr
 obtain ⟨E,hE⟩ : ∃ E,mayE n r short = E := ⟨_,rfl⟩
 have HE := Lib.hid hE
 rw [hE]
 clear hE
 obtain ⟨R0,e0⟩ : ∃ R,decide (n < 0) = R := ⟨_,rfl⟩
 obtain ⟨R1,e1⟩ : ∃ R,decide (64 < n) = R := ⟨_,rfl⟩
 obtain ⟨R2,e2⟩ : ∃ R,decide ((r : Int) < n) = R := ⟨_,rfl⟩
 have HF : Hid ((R0 = true ∨ R1 = true → E = 2) ∧ (R0 = false → R1 = false → R2 = true → E = short) ∧ (R0 = false → R1 = false → R2 = false → E = 0)) := by
  show _ ∧ _ ∧ _
  rw [← HE.out,← e0,← e1,← e2]
  unfold mayE
  refine ⟨fun h => ?_,fun h1 h2 h3 => ?_,fun h1 h2 h3 => ?_⟩
  ·simp at h
   rw [if_pos h]
  ·simp at h1 h2 h3
   rw [if_neg (by omega),if_pos h3]
  ·simp at h1 h2 h3
   rw [if_neg (by omega),if_neg (by omega)]
 clear HE
 go_enter Tryz.func209,Tryz.ntmps209
 go_wp2_with (go_at_call 214;(refine HL.out.mono ?_;rintro e w1 ⟨rfl,q,rfl⟩))
 all_goals
  clear e0 e1 e2
  go_ret
 all_goals first
  | exact ⟨by rw [HF.out.1 (by simp_all)];rfl,0,rfl⟩
  | exact ⟨by rw [HF.out.1 (by simp_all)];rfl,_,rfl⟩
  | exact ⟨by rw [HF.out.2.1 (by simp_all) (by simp_all) (by simp_all)];rfl,_,rfl⟩
  | exact ⟨by rw [HF.out.2.2 (by simp_all) (by simp_all) (by simp_all)];rfl,_,rfl⟩

set_option maxHeartbeats 4000000 in
theorem fwdTake_any (R g : Nat) (B : List Int) (a b : Nat) (n : Int) (w : World) (h : BitR w R g 195 B a b) :
  Calls Tryz.prog 183 #[.pointer (some ⟨R,0,none⟩),.int .i64 n] w fun e w' =>
   if mayE n (b - a) 3 = 0 then e = .returned (.tuple #[.int .u64 (bitsAt B a n.toNat : Nat),.int .i64 0]) ∧ BitR w' R g 195 B (a + n.toNat) b ∧ Keeps w w' [R]
   else e = .returned (.tuple #[.int .u64 0,.int .i64 (mayE n (b - a) 3)]) ∧ ∃ q,w' = w.drewN q := by
 have HM := Lib.hid (rowMay_any R g _ B a b n 3 w h)
 obtain ⟨E,hE⟩ : ∃ E,mayE n (b - a) 3 = E := ⟨_,rfl⟩
 rw [hE] at HM ⊢
 by_cases hE0 : E = 0
 ·subst hE0
  simp only [if_true]
  obtain ⟨h1,h2,h3⟩ : 0 ≤ n ∧ n ≤ 64 ∧ n ≤ ((b - a : Nat) : Int) := by
   unfold mayE at hE
   split at hE
   ·cases hE
   ·split at hE
    ·cases hE
    ·omega
  obtain ⟨m,rfl⟩ := Int.eq_ofNat_of_zero_le h1
  simp only [Int.toNat_natCast]
  have hab := h.hab
  have hb := h.hb
  have hl := h.len
  obtain ⟨bs,c1,c2,c3⟩ := h.cells
  obtain ⟨A0,k,cp,rfl,-,-⟩ := c2.form
  have ham : ((a + m : Nat) : Int) = (a : Int) + (m : Int) := by omega
  have hw1 : wrap64 ((a : Int) + (m : Int)) = (a : Int) + (m : Int) := IntWalk.wrap64_in _ ⟨by omega,by omega⟩
  have hw2 : wrap64 ((a : Int) + (m : Int) - (m : Int)) = (a : Int) := by rw [IntWalk.wrap64_in _ ⟨by omega,by omega⟩];omega
  have m1 : IntKind.i64.wrap (a : Int) = (a : Int) := by simp [IntKind.wrap,IntKind.signed,IntKind.bits];omega
  have m2 : wrap64 (a : Int) = (a : Int) := IntWalk.wrap64_in _ ⟨by omega,by omega⟩
  have hne := h.ne
  have hbnd : a + m ≤ 8 * B.length ∧ a + m ≤ b := ⟨by omega,by omega⟩
  have HBD := Lib.hid (show B.length ≤ 1000000 ∧ (∀ x ∈ B,0 ≤ x ∧ x ≤ 255) ∧ a + m ≤ 8 * B.length ∧ a + m ≤ b ∧ b ≤ 8 * B.length ∧ m ≤ 64 from ⟨h.len,h.bytes,hbnd.1,hbnd.2,hb,by omega⟩)
  have C3 := Lib.hid c3
  clear h hE h1 h2 h3 hab hb hl hbnd c3
  go_enter Tryz.func183,Tryz.ntmps183
  go_wp2_with fail
  refine HM.out.mono ?_
  rintro e w1 ⟨rfl,q,rfl⟩
  replace c1 := c1.drewN q
  replace c2 := c2.drewN q
  have k0 := (Keeps.refl w []).drewN q
  generalize w.drewN q = w1 at *
  have q1 := c1.cell 1
  have f1 := c1.frozen 1
  simp at q1
  go_wp2_with fail
  have kS : Keeps w1 (w1.setCell ⟨R,1,none⟩ (.int .i64 ((a : Int) + (m : Int)))) [R] := (Keeps.refl w1 _).setCell (.inr (by simp)) _
  have d1 : Blk (w1.setCell ⟨R,1,none⟩ (.int .i64 ((a : Int) + (m : Int)))) R #[.slice A0 k cp,.int .i64 ((a : Int) + (m : Int)),.int .i64 b] 195 := by
   have := c1.set 1 (.int .i64 ((a : Int) + (m : Int)))
   simpa using this
  have d2 := c2.keepsS kS (fun ad n cp e _ hm => hne (by rw [← C3.out ad n cp e];simpa using hm))
  have HV := Lib.hid (fun w2 (kk : Keeps (w1.setCell ⟨R,1,none⟩ (.int .i64 ((a : Int) + (m : Int)))) w2 []) => value_any R a m _ _ _ B w2 _ (d1.keeps kk (by simp)) (d2.keeps kk) HBD.out.1 HBD.out.2.1 HBD.out.2.2.1 HBD.out.2.2.2.2.2)
  have KS := Lib.hid kS
  clear kS q1 f1
  generalize (w1.setCell ⟨R,1,none⟩ (.int .i64 ((a : Int) + (m : Int)))) = W1 at *
  refine wp_region_held_drew (S := (fun w' => Blk w' R #[.slice A0 k cp,.int .i64 ((a : Int) + (m : Int)),.int .i64 b] 195 ∧ Keeps W1 w' [])) (by kernel_rfl) ⟨d1.drew,(Keeps.refl W1 []).drew⟩ (fun hHeld => ?_)
  refine takeM 0 rfl (by intro w9 hSw;have q0 := hSw.1.cell 0;have q1 := hSw.1.cell 1;have q2 := hSw.1.cell 2;simp at q0 q1 q2;clear hSw;go_simp;(try with_reducible rfl)) ?_
  try simp only [Act.put,stA,stZ,stS]
  refine takeM 1 rfl (by intro w9 hSw;have q0 := hSw.1.cell 0;have q1 := hSw.1.cell 1;have q2 := hSw.1.cell 2;simp at q0 q1 q2;clear hSw;go_simp;(try with_reducible rfl)) ?_
  try simp only [Act.put,stA,stZ,stS]
  refine takeM 2 rfl (by intro w9 hSw;have q0 := hSw.1.cell 0;have q1 := hSw.1.cell 1;have q2 := hSw.1.cell 2;simp at q0 q1 q2;clear hSw;go_simp;(try with_reducible rfl)) ?_
  try simp only [Act.put,stA,stZ,stS]
  refine takeM 3 rfl (by intro w9 hSw;have q0 := hSw.1.cell 0;have q1 := hSw.1.cell 1;have q2 := hSw.1.cell 2;simp at q0 q1 q2;clear hSw;go_simp;(try with_reducible rfl)) ?_
  try simp only [Act.put,stA,stZ,stS]
  refine takeM 4 rfl (by intro w9 hSw;have q0 := hSw.1.cell 0;have q1 := hSw.1.cell 1;have q2 := hSw.1.cell 2;simp at q0 q1 q2;clear hSw;go_simp;(try with_reducible rfl)) ?_
  try simp only [Act.put,stA,stZ,stS]
  refine takeM 5 rfl (by intro w9 hSw;have q0 := hSw.1.cell 0;have q1 := hSw.1.cell 1;have q2 := hSw.1.cell 2;simp at q0 q1 q2;clear hSw;go_simp;(try with_reducible rfl)) ?_
  try simp only [Act.put,stA,stZ,stS]
  refine takeM 6 rfl (by intro w9 hSw;have q0 := hSw.1.cell 0;have q1 := hSw.1.cell 1;have q2 := hSw.1.cell 2;simp at q0 q1 q2;clear hSw;go_simp;(try with_reducible rfl)) ?_
  try simp only [Act.put,stA,stZ,stS]
  refine takeM 7 rfl (by intro w9 hSw;have q0 := hSw.1.cell 0;have q1 := hSw.1.cell 1;have q2 := hSw.1.cell 2;simp at q0 q1 q2;clear hSw;go_simp;(try with_reducible rfl)) ?_
  try simp only [Act.put,stA,stZ,stS]
  refine takeM 8 rfl (by intro w9 hSw;have q0 := hSw.1.cell 0;have q1 := hSw.1.cell 1;have q2 := hSw.1.cell 2;simp at q0 q1 q2;clear hSw;go_simp;(try with_reducible rfl)) ?_
  try simp only [Act.put,stA,stZ,stS]
  refine takeM 9 rfl (by intro w9 hSw;have q0 := hSw.1.cell 0;have q1 := hSw.1.cell 1;have q2 := hSw.1.cell 2;simp at q0 q1 q2;clear hSw;go_simp;(try with_reducible rfl)) ?_
  try simp only [Act.put,stA,stZ,stS]
  refine takeM 10 rfl (by intro w9 hSw;have q0 := hSw.1.cell 0;have q1 := hSw.1.cell 1;have q2 := hSw.1.cell 2;simp at q0 q1 q2;clear hSw;go_simp;(try with_reducible rfl)) ?_
  try simp only [Act.put,stA,stZ,stS]
  refine callL (i := 11) rfl (by kernel_rfl) (fun Kont hK => ?_)
  go_simp
  refine (HV.out _ hHeld.2).mono ?_;rintro e w3 ⟨rfl,kk⟩
  go_wp2_with fail
  refine hK.out _ _ ?_ (fun hHeld => ?_)
  ·(exact ⟨hHeld.1.keeps kk (by simp),hHeld.2.then kk⟩)
  clear hK Kont
  refine takeM 12 rfl (by intro w9 hSw;clear hSw;go_simp;(try with_reducible rfl)) ?_
  try simp only [Act.put,stA,stZ,stS]
  refine takeM 13 rfl (by intro w9 hSw;clear hSw;go_simp;(try with_reducible rfl)) ?_
  try simp only [Act.put,stA,stZ,stS]
  refine wpAnyH_done (by kernel_rfl) ?_ _
  go_wp2_with fail
  go_ret2
  refine ⟨rfl,⟨⟨_,by rw [ham];exact hHeld.1,d2.keeps hHeld.2,C3.out⟩,hne,HBD.out.1,HBD.out.2.1,HBD.out.2.2.2.1,HBD.out.2.2.2.2.1⟩,?_⟩
  exact (k0.mono (S' := [R]) (fun _ h => by cases h)).trans (KS.out.trans hHeld.2 (fun j hj _ => by cases hj)) (fun x hx _ => hx)
 ·simp only [hE0,if_false]
  have hne : (E != 0) = true := by simpa using hE0
  clear h hE
  go_enter Tryz.func183,Tryz.ntmps183
  go_wp2_with (go_at_call 209;(refine HM.out.mono ?_;rintro e w1 ⟨rfl,q,rfl⟩))
  go_ret2
  exact ⟨rfl,_,rfl⟩

theorem and7 {a : Nat} (h : a ≤ 8000000) : bits .and .i64 (wrap64 (-(a : Int))) 7 = (((8 - a % 8) % 8 : Nat) : Int) := by
 have hw : wrap64 (-(a : Int)) = -(a : Int) := IntWalk.wrap64_in _ ⟨by omega,by omega⟩
 rw [hw]
 have h7 : (BitVec.ofInt 64 7).toNat = 2 ^ 3 - 1 := by decide
 have hr : (BitVec.ofInt 64 (-(a : Int)) &&& BitVec.ofInt 64 7).toNat = (8 - a % 8) % 8 := by
  rw [BitVec.toNat_and,h7,Nat.and_two_pow_sub_one_eq_mod,BitVec.toNat_ofInt]
  omega
 show IntKind.i64.wrap ((BitVec.ofInt 64 (-(a : Int)) &&& BitVec.ofInt 64 7).toNat : Int) = _
 rw [hr]
 have : (8 - a % 8) % 8 < 8 := Nat.mod_lt _ (by omega)
 simp [IntKind.wrap,IntKind.signed,IntKind.bits]
 omega

set_option maxHeartbeats 2000000 in
theorem newFwd_any (v : Value) (B : List Int) (w : World) (hv : RdI .u8 w v B) (hl : B.length ≤ 1000000) (hb : ∀ x ∈ B,0 ≤ x ∧ x ≤ 255) :
  Calls Tryz.prog 116 #[v] w fun e w' => ∃ R g,e = .returned (.pointer (some ⟨R,0,none⟩)) ∧ BitR w' R g 195 B 0 (8 * B.length) ∧ w.heap.size ≤ R ∧ w.heap.size ≤ g ∧ Keeps w w' [] := by
 have HC := Lib.hid (cloneb_any v B w hv hl)
 obtain ⟨A0,n,cp0,rfl,hnl,-⟩ := hv.form
 have hn : n ≤ 1000000 := by omega
 have hw8 : wrap64 (8 * (n : Int)) = 8 * (n : Int) := IntWalk.wrap64_in _ ⟨by omega,by omega⟩
 have HN := Lib.hid hnl
 have HBY := Lib.hid (show B.length ≤ 1000000 ∧ ∀ x ∈ B,0 ≤ x ∧ x ≤ 255 from ⟨hl,hb⟩)
 clear hv hnl hl hb
 go_enter Tryz.func116,Tryz.ntmps116
 go_wp2_with (go_at_call 33;(refine HC.out.mono ?_;rintro e w1 ⟨v1,rfl,own1,k1⟩;obtain ⟨a1,c1,rfl⟩ := own_form own1))
 go_ret
 have r1 := own_reads own1
 have hs1 := k1.size
 have hlt : ∀ ad m c,Value.slice a1 B.length c1 = .slice (some ad) m c → w.heap.size ≤ ad.block ∧ ad.block < w1.heap.size := fun ad m c he => own1.lt ad.block (by cases he;rfl)
 obtain ⟨g,hg,hge,hgn⟩ : ∃ g,(∀ ad m c,Value.slice a1 B.length c1 = .slice (some ad) m c → ad.block = g) ∧ w.heap.size ≤ g ∧ g ≠ w1.heap.size := by
  cases a1 with
  | none => exact ⟨w1.heap.size + 1,(fun ad m c he => by cases he),by omega,by omega⟩
  | some ad => exact ⟨ad.block,(fun ad' m c he => by cases he;rfl),(hlt ad _ _ rfl).1,by have := (hlt ad _ _ rfl).2;omega⟩
 have e8 : (8 * (n : Int)) = ((8 * B.length : Nat) : Int) := by have := HN.out;omega
 rw [e8]
 refine ⟨w1.heap.size,g,rfl,⟨⟨_,Blk.new w1 _ _,r1.keeps ((Keeps.refl w1 []).alloc _),hg⟩,hgn,HBY.out.1,HBY.out.2,Nat.zero_le _,Nat.le_refl _⟩,hs1,hge,k1.alloc _⟩

set_option maxHeartbeats 4000000 in
theorem fwdAlign_any (R g : Nat) (B : List Int) (a : Nat) (w : World) (h : BitR w R g 195 B a (8 * B.length)) :
  Calls Tryz.prog 119 #[.pointer (some ⟨R,0,none⟩)] w fun e w' =>
   if bitsAt B a ((8 - a % 8) % 8) = 0 then e = .returned (.tuple #[.int .i64 (((a + (8 - a % 8) % 8) / 8 : Nat) : Int),.int .i64 0]) ∧ BitR w' R g 195 B (a + (8 - a % 8) % 8) (8 * B.length) ∧ Keeps w w' [R]
   else e = .returned (.tuple #[.int .i64 0,.int .i64 14]) ∧ Keeps w w' [] := by
 have hab := h.hab
 have hl := h.len
 obtain ⟨m,hm⟩ : ∃ m,(8 - a % 8) % 8 = m := ⟨_,rfl⟩
 have hm8 : m < 8 ∧ (a + m) % 8 = 0 := by omega
 have h7 := and7 (a := a) (by omega)
 rw [hm] at h7 ⊢
 obtain ⟨bs,c1,c2,c3⟩ := h.cells
 obtain ⟨A0,k,cp,rfl,-,-⟩ := c2.form
 have HV := Lib.hid (fun w1 (kk : Keeps w w1 []) => value_any R a m _ _ _ B w1 _ (c1.keeps kk (by simp)) (c2.keeps kk) h.len h.bytes (by omega) (by omega))
 have hw1 : wrap64 ((a : Int) + (m : Int)) = ((a + m : Nat) : Int) := by rw [IntWalk.wrap64_in _ ⟨by omega,by omega⟩];omega
 have q1 := c1.cell 1
 simp at q1
 have HH := Lib.hid h
 have HM8 := Lib.hid (show m < 8 ∧ (a + m) % 8 = 0 ∧ a ≤ 8 * B.length ∧ B.length ≤ 1000000 from ⟨hm8.1,hm8.2,hab,hl⟩)
 obtain ⟨V0,hV0⟩ : ∃ V0,bitsAt B a m = V0 := ⟨_,rfl⟩
 rw [hV0] at HV ⊢
 clear hm hm8 h hab hl hV0
 by_cases hz : V0 = 0
 ·subst hz
  simp only [if_true]
  have e1 : (((0 : Nat) : Int) != 0) = false := by simp
  go_enter Tryz.func119,Tryz.ntmps119
  go_wp2_with fail
  clear q1
  refine wp_region_held_drew (S := (fun w' => Blk w' R #[.slice A0 k cp,.int .i64 (a : Int),.int .i64 ((8 * B.length : Nat) : Int)] 195 ∧ Keeps w w' [])) (by kernel_rfl) ⟨c1.drew,(Keeps.refl w []).drew⟩ (fun hHeld => ?_)
  refine takeM 0 rfl (by intro w9 hSw;have q0 := hSw.1.cell 0;have q1 := hSw.1.cell 1;have q2 := hSw.1.cell 2;simp at q0 q1 q2;clear hSw;go_simp;(try with_reducible rfl)) ?_
  try simp only [Act.put,stA,stZ,stS]
  refine takeM 1 rfl (by intro w9 hSw;have q0 := hSw.1.cell 0;have q1 := hSw.1.cell 1;have q2 := hSw.1.cell 2;simp at q0 q1 q2;clear hSw;go_simp;(try with_reducible rfl)) ?_
  try simp only [Act.put,stA,stZ,stS]
  refine takeM 2 rfl (by intro w9 hSw;have q0 := hSw.1.cell 0;have q1 := hSw.1.cell 1;have q2 := hSw.1.cell 2;simp at q0 q1 q2;clear hSw;go_simp;(try with_reducible rfl)) ?_
  try simp only [Act.put,stA,stZ,stS]
  refine takeM 3 rfl (by intro w9 hSw;have q0 := hSw.1.cell 0;have q1 := hSw.1.cell 1;have q2 := hSw.1.cell 2;simp at q0 q1 q2;clear hSw;go_simp;(try with_reducible rfl)) ?_
  try simp only [Act.put,stA,stZ,stS]
  refine takeM 4 rfl (by intro w9 hSw;have q0 := hSw.1.cell 0;have q1 := hSw.1.cell 1;have q2 := hSw.1.cell 2;simp at q0 q1 q2;clear hSw;go_simp;(try with_reducible rfl)) ?_
  try simp only [Act.put,stA,stZ,stS]
  refine takeM 5 rfl (by intro w9 hSw;have q0 := hSw.1.cell 0;have q1 := hSw.1.cell 1;have q2 := hSw.1.cell 2;simp at q0 q1 q2;clear hSw;go_simp;(try with_reducible rfl)) ?_
  try simp only [Act.put,stA,stZ,stS]
  refine takeM 6 rfl (by intro w9 hSw;have q0 := hSw.1.cell 0;have q1 := hSw.1.cell 1;have q2 := hSw.1.cell 2;simp at q0 q1 q2;clear hSw;go_simp;(try with_reducible rfl)) ?_
  try simp only [Act.put,stA,stZ,stS]
  refine takeM 7 rfl (by intro w9 hSw;have q0 := hSw.1.cell 0;have q1 := hSw.1.cell 1;have q2 := hSw.1.cell 2;simp at q0 q1 q2;clear hSw;go_simp;(try with_reducible rfl)) ?_
  try simp only [Act.put,stA,stZ,stS]
  refine takeM 8 rfl (by intro w9 hSw;have q0 := hSw.1.cell 0;have q1 := hSw.1.cell 1;have q2 := hSw.1.cell 2;simp at q0 q1 q2;clear hSw;go_simp;(try with_reducible rfl)) ?_
  try simp only [Act.put,stA,stZ,stS]
  refine callL (i := 9) rfl (by kernel_rfl) (fun Kont hK => ?_)
  go_simp
  refine (HV.out _ hHeld.2).mono ?_;rintro e w3 ⟨rfl,kk⟩
  go_wp2_with fail
  refine hK.out _ _ ?_ (fun hHeld => ?_)
  ·(exact ⟨hHeld.1.keeps kk (by simp),hHeld.2.then kk⟩)
  clear hK Kont
  refine takeM 10 rfl (by intro w9 hSw;clear hSw;go_simp;(try with_reducible rfl)) ?_
  try simp only [Act.put,stA,stZ,stS]
  refine wpAnyH_done (by kernel_rfl) ?_ _
  obtain ⟨bB,kk⟩ := hHeld
  have bR := HH.out.keep kk
  have q1 := bB.cell 1
  have f1 := bB.frozen 1
  simp at q1
  clear HV
  obtain ⟨Sm,hSm⟩ : ∃ D : Int,(a : Int) + (m : Int) = D := ⟨_,rfl⟩
  have hd8 : Sm / 8 = (((a + m) / 8 : Nat) : Int) := by have := HM8.out;omega
  have hw9 : wrap64 Sm = Sm := IntWalk.wrap64_in _ ⟨by have := HM8.out;omega,by have := HM8.out;omega⟩
  have hS0 : (0 : Int) ≤ Sm := by omega
  have HS := Lib.hid hSm
  clear hw1
  go_wp2_with fail
  go_ret2
  have ht : wrap64 (Sm.tdiv 8) = (((a + m) / 8 : Nat) : Int) := by
   rw [Int.tdiv_eq_ediv_of_nonneg hS0,hd8]
   exact IntWalk.wrap64_in _ ⟨by have := HM8.out;omega,by have := HM8.out;omega⟩
  have hSa : Sm = ((a + m : Nat) : Int) := by omega
  have kS : Keeps w3 (w3.setCell ⟨R,1,none⟩ (.int .i64 Sm)) [R] := (Keeps.refl w3 _).setCell (.inr (by simp)) _
  have d1 : Blk (w3.setCell ⟨R,1,none⟩ (.int .i64 Sm)) R #[.slice A0 k cp,.int .i64 Sm,.int .i64 ((8 * B.length : Nat) : Int)] 195 := by
   have := bB.set 1 (.int .i64 Sm)
   simpa using this
  have d2 := (c2.keeps kk).keepsS kS (fun ad n cp e _ hm => bR.ne (by rw [← c3 ad n cp e];simpa using hm))
  refine ⟨by rw [← ht];rfl,⟨⟨_,by rw [← hSa];exact d1,d2,c3⟩,bR.ne,bR.len,bR.bytes,by have := HM8.out;omega,Nat.le_refl _⟩,?_⟩
  exact (kk.mono (S' := [R]) (fun _ h => by cases h)).trans kS (fun x hx _ => hx)
 ·simp only [hz,if_false]
  have e1 : (((V0 : Nat) : Int) != 0) = true := by simp;omega
  go_enter Tryz.func119,Tryz.ntmps119
  go_wp2_with fail
  clear q1
  refine wp_region_held_drew (S := (fun w' => Blk w' R #[.slice A0 k cp,.int .i64 (a : Int),.int .i64 ((8 * B.length : Nat) : Int)] 195 ∧ Keeps w w' [])) (by kernel_rfl) ⟨c1.drew,(Keeps.refl w []).drew⟩ (fun hHeld => ?_)
  refine takeM 0 rfl (by intro w9 hSw;have q0 := hSw.1.cell 0;have q1 := hSw.1.cell 1;have q2 := hSw.1.cell 2;simp at q0 q1 q2;clear hSw;go_simp;(try with_reducible rfl)) ?_
  try simp only [Act.put,stA,stZ,stS]
  refine takeM 1 rfl (by intro w9 hSw;have q0 := hSw.1.cell 0;have q1 := hSw.1.cell 1;have q2 := hSw.1.cell 2;simp at q0 q1 q2;clear hSw;go_simp;(try with_reducible rfl)) ?_
  try simp only [Act.put,stA,stZ,stS]
  refine takeM 2 rfl (by intro w9 hSw;have q0 := hSw.1.cell 0;have q1 := hSw.1.cell 1;have q2 := hSw.1.cell 2;simp at q0 q1 q2;clear hSw;go_simp;(try with_reducible rfl)) ?_
  try simp only [Act.put,stA,stZ,stS]
  refine takeM 3 rfl (by intro w9 hSw;have q0 := hSw.1.cell 0;have q1 := hSw.1.cell 1;have q2 := hSw.1.cell 2;simp at q0 q1 q2;clear hSw;go_simp;(try with_reducible rfl)) ?_
  try simp only [Act.put,stA,stZ,stS]
  refine takeM 4 rfl (by intro w9 hSw;have q0 := hSw.1.cell 0;have q1 := hSw.1.cell 1;have q2 := hSw.1.cell 2;simp at q0 q1 q2;clear hSw;go_simp;(try with_reducible rfl)) ?_
  try simp only [Act.put,stA,stZ,stS]
  refine takeM 5 rfl (by intro w9 hSw;have q0 := hSw.1.cell 0;have q1 := hSw.1.cell 1;have q2 := hSw.1.cell 2;simp at q0 q1 q2;clear hSw;go_simp;(try with_reducible rfl)) ?_
  try simp only [Act.put,stA,stZ,stS]
  refine takeM 6 rfl (by intro w9 hSw;have q0 := hSw.1.cell 0;have q1 := hSw.1.cell 1;have q2 := hSw.1.cell 2;simp at q0 q1 q2;clear hSw;go_simp;(try with_reducible rfl)) ?_
  try simp only [Act.put,stA,stZ,stS]
  refine takeM 7 rfl (by intro w9 hSw;have q0 := hSw.1.cell 0;have q1 := hSw.1.cell 1;have q2 := hSw.1.cell 2;simp at q0 q1 q2;clear hSw;go_simp;(try with_reducible rfl)) ?_
  try simp only [Act.put,stA,stZ,stS]
  refine takeM 8 rfl (by intro w9 hSw;have q0 := hSw.1.cell 0;have q1 := hSw.1.cell 1;have q2 := hSw.1.cell 2;simp at q0 q1 q2;clear hSw;go_simp;(try with_reducible rfl)) ?_
  try simp only [Act.put,stA,stZ,stS]
  refine callL (i := 9) rfl (by kernel_rfl) (fun Kont hK => ?_)
  go_simp
  refine (HV.out _ hHeld.2).mono ?_;rintro e w3 ⟨rfl,kk⟩
  go_wp2_with fail
  refine hK.out _ _ ?_ (fun hHeld => ?_)
  ·(exact ⟨hHeld.1.keeps kk (by simp),hHeld.2.then kk⟩)
  clear hK Kont
  refine takeM 10 rfl (by intro w9 hSw;clear hSw;go_simp;(try with_reducible rfl)) ?_
  try simp only [Act.put,stA,stZ,stS]
  refine wpAnyH_done (by kernel_rfl) ?_ _
  go_wp2_with fail
  go_ret2
  exact ⟨rfl,hHeld.2⟩
end

section
def tk (L : List Bool) (n : Nat) : Except Int (Nat × List Bool) := if n ≤ L.length then .ok (valL (L.take n),L.drop n) else .error 3
theorem tk_ok {L : List Bool} {n : Nat} (h : n ≤ L.length) : tk L n = .ok (valL (L.take n),L.drop n) := if_pos h
theorem tk_no {L : List Bool} {n : Nat} (h : L.length < n) : tk L n = .error 3 := if_neg (by omega)
theorem tk_lt {L L1 : List Bool} {n t : Nat} (h : tk L n = .ok (t,L1)) : t < 2 ^ n ∧ L1.length + n = L.length := by
 unfold tk at h
 split at h
 ·rename_i hn
  injection h with h
  injection h with h1 h2
  subst h1 h2
  refine ⟨?_,by simp;omega⟩
  have := valL_lt (L.take n)
  rwa [List.length_take,Nat.min_eq_left hn] at this
 ·cases h

def numP (L : List Bool) (m : Nat) : Except Int (Nat × List Bool) :=
 match tk L m.log2 with
 | .error e => .error e
 | .ok (t,L1) => if t < 2 ^ (m.log2 + 1) - m then .ok (t,L1) else
  match tk L1 1 with
  | .error e => .error e
  | .ok (c,L2) => .ok (2 * t + c - (2 ^ (m.log2 + 1) - m),L2)

theorem log2_le {m : Nat} (h : 0 < m) : 2 ^ m.log2 ≤ m := (Nat.le_log2 (by omega)).1 (Nat.le_refl _)
theorem log2_ltD {m : Nat} (h : 0 < m) : m < 2 ^ (m.log2 + 1) := (Nat.log2_lt (by omega)).1 (Nat.lt_succ_self _)

theorem numP_lt {L L1 : List Bool} {m v : Nat} (hm : 0 < m) (h : numP L m = .ok (v,L1)) : v < m ∧ L1.length + m.log2 ≤ L.length ∧ L.length ≤ L1.length + m.log2 + 1 := by
 unfold numP at h
 have h1 := log2_le hm
 have h2 := log2_ltD hm
 have h3 : 2 ^ (m.log2 + 1) = 2 * 2 ^ m.log2 := by rw [Nat.pow_succ];omega
 split at h
 ·cases h
 ·rename_i t L0 ht
  obtain ⟨g1,g2⟩ := tk_lt ht
  split at h
  ·injection h with h
   injection h with e1 e2
   subst e1 e2
   omega
  ·split at h
   ·cases h
   ·rename_i c L2 hc
    obtain ⟨g3,g4⟩ := tk_lt hc
    injection h with h
    injection h with e1 e2
    subst e1 e2
    omega

def zerosP (symbols : Nat) : Nat → List Bool → List Int → Except Int (List Int × List Bool)
 | 0,_,_ => .error 0
 | f + 1,L,out => if symbols ≤ out.length then .error 13 else
  match tk L 2 with
  | .error e => .error e
  | .ok (k,L1) => if k = 3 then zerosP symbols f L1 (out ++ List.replicate k 0) else .ok (out ++ List.replicate k 0,L1)

def normsP (symbols : Nat) : Nat → List Bool → Nat → List Int → Bool → Except Int (List Int × List Bool)
 | 0,_,_,_,_ => .error 0
 | f + 1,L,left,out,ran => if left = 0 then .ok (out,L) else if symbols ≤ out.length then .error 13 else
  match numP L (left + 2) with
  | .error e => .error e
  | .ok (v,L1) => if v = 1 ∧ ran = true then .error 13 else
   if v = 1 then
    match zerosP symbols (symbols + 1) L1 (out ++ [(v : Int) - 1]) with
    | .error e => .error e
    | .ok (o,L2) => normsP symbols f L2 left o true
   else normsP symbols f L1 (left - (if v = 0 then 1 else v - 1)) (out ++ [(v : Int) - 1]) false

/-! More bits behind those that are read change nothing. -/
def more {α : Type} (Z : List Bool) : Except Int (α × List Bool) → Except Int (α × List Bool)
 | .error e => .error e
 | .ok (x,R) => .ok (x,R ++ Z)
theorem tk_app {A Z : List Bool} {n : Nat} (h : n ≤ A.length) : tk (A ++ Z) n = more Z (tk A n) := by
 rw [tk_ok h,tk_ok (by simp;omega),List.take_append_of_le_length h,List.drop_append_of_le_length h]
 rfl
theorem numP_app {A Z : List Bool} {m : Nat} (h : m.log2 + 1 ≤ A.length) : numP (A ++ Z) m = more Z (numP A m) := by
 unfold numP
 rw [tk_app (by omega)]
 cases ht : tk A m.log2 with
 | error e => rfl
 | ok x =>
  obtain ⟨t,L1⟩ := x
  obtain ⟨-,h2⟩ := tk_lt ht
  simp only [more]
  split
  ·rfl
  ·rw [tk_app (by omega)]
   cases tk L1 1 with
   | error e => rfl
   | ok y => rfl
theorem zerosP_len {symbols : Nat} : ∀ {f : Nat} {L L2 : List Bool} {out o : List Int},zerosP symbols f L out = .ok (o,L2) → out.length ≤ o.length ∧ L2.length ≤ L.length ∧ L.length ≤ L2.length + 2 + 2 * (o.length - out.length) ∧ L.length ≤ L2.length + 2 * (symbols - out.length) := by
 intro f
 induction f with
 | zero => intro L L2 out o h;cases h
 | succ f ih =>
  intro L L2 out o h
  unfold zerosP at h
  split at h
  ·cases h
  ·split at h
   ·cases h
   ·rename_i k L1 hk
    obtain ⟨-,h2⟩ := tk_lt hk
    split at h
    ·rename_i h3
     subst h3
     obtain ⟨g1,g2,g3,g4⟩ := ih h
     simp only [List.length_append,List.length_replicate] at g1 g3 g4
     omega
    ·injection h with h
     injection h with e1 e2
     subst e1 e2
     simp only [List.length_append,List.length_replicate]
     omega
theorem zerosP_app {symbols : Nat} {Z : List Bool} : ∀ {f : Nat} {A : List Bool} {out : List Int},2 * (symbols - out.length) ≤ A.length → zerosP symbols f (A ++ Z) out = more Z (zerosP symbols f A out) := by
 intro f
 induction f with
 | zero => intro A out _;rfl
 | succ f ih =>
  intro A out h
  unfold zerosP
  split
  ·rfl
  ·rw [tk_app (by omega)]
   cases hk : tk A 2 with
   | error e => rfl
   | ok x =>
    obtain ⟨k,L1⟩ := x
    obtain ⟨-,h2⟩ := tk_lt hk
    simp only [more]
    split
    ·rename_i h3
     subst h3
     exact ih (by simp only [List.length_append,List.length_replicate];omega)
    ·rfl

theorem log2_small {m : Nat} (h0 : 0 < m) (h : m ≤ 514) : m.log2 ≤ 9 := by
 have h1 := log2_le h0
 by_cases h2 : m.log2 ≤ 9
 ·exact h2
 ·have h3 : 2 ^ 10 ≤ 2 ^ m.log2 := Nat.pow_le_pow_right (by decide) (by omega)
  have h4 : (2 : Nat) ^ 10 = 1024 := by decide
  omega
theorem normsP_app {symbols : Nat} {Z : List Bool} : ∀ {f : Nat} {A : List Bool} {left : Nat} {out : List Int} {ran : Bool},left ≤ 512 → 12 * (symbols - out.length) ≤ A.length → normsP symbols f (A ++ Z) left out ran = more Z (normsP symbols f A left out ran) := by
 intro f
 induction f with
 | zero => intro A left out ran _ _;rfl
 | succ f ih =>
  intro A left out ran hl h
  unfold normsP
  split
  ·rfl
  ·split
   ·rfl
   ·have h9 := log2_small (m := left + 2) (by omega) (by omega)
    rw [numP_app (by omega)]
    cases hk : numP A (left + 2) with
    | error e => rfl
    | ok x =>
     obtain ⟨v,L1⟩ := x
     obtain ⟨h1,h2,h3⟩ := numP_lt (by omega) hk
     simp only [more]
     split
     ·rfl
     ·split
      ·rename_i hv
       rw [zerosP_app (by simp only [List.length_append,List.length_cons,List.length_nil];omega)]
       cases hz : zerosP symbols (symbols + 1) L1 (out ++ [(v : Int) - 1]) with
       | error e => rfl
       | ok y =>
        obtain ⟨o,L2⟩ := y
        obtain ⟨g1,g2,g3,g4⟩ := zerosP_len hz
        simp only [List.length_append,List.length_cons,List.length_nil] at g1 g3 g4
        exact ih hl (by omega)
      ·refine ih ?_ ?_
       ·split <;> omega
       ·simp only [List.length_append,List.length_cons,List.length_nil]
        omega
end

section
open Go.RowKit

theorem zeroCells_one (z : Value) (m : Nat) : Builtin.zeroCells #[z] m = (List.replicate m z).toArray := by
 unfold Builtin.zeroCells
 apply Array.ext
 ·simp
 ·intro i h1 h2
  simp [Nat.mod_one]

theorem run_append_zeros {P : Program} {w : World} (base : Nat) (t tn ty e : TypeId) (i : TypeInfo) (z : Value) (kq kn : IntKind) (bytes : Nat) (ht : P.underlying t = some (.slice e)) (htn : P.underlying tn = some (.int kn)) (hi : P.info? e = some i) (hz : i.zero = some z)
  (hsize : i.size = 1) (hby : i.bytes = bytes) (hzs : z.cells = #[z]) (hz1 : z.oneCell' = true) (v : Value) (n : Nat) (xs : List Value) (hown : w.ownsRow base e 1 v n xs) (m : Nat) (h63 : n + m ≤ maxLen) (hbytes : (n + m) * bytes ≤ 140737488355328) (hbase : base ≤ w.heap.size) :
  ∃ v' w',(Builtin.append_ #[t,tn] ty #[v,.int kq m]).run P w = .ok v' w' ∧ w'.ownsRow base e 1 v' (n + m) (xs ++ List.replicate m z) ∧ w.grownBy w' v.ownBlock := by
 subst hby
 have hsmall : n + m ≤ 9223372036854775807 := by simp only [maxLen] at h63;omega
 have hw : IntKind.i64.wrap (m : Int) = m := by rw [IntKind.wrap_i64];omega
 have hneg : ¬ ((m : Int) < 0) := by omega
 have hmb : m * i.bytes ≤ (n + m) * i.bytes := Nat.mul_le_mul_right _ (by omega)
 have h48i : ¬ (281474976710656 < (m : Int) * (i.bytes : Int)) := by rw [← Int.natCast_mul];omega
 have hlen : (xs ++ List.replicate m z).length = (n + m) * 1 := by rw [List.length_append,hown.1,List.length_replicate];omega
 by_cases hm : m = 0
 ·subst hm
  have hw0 : IntKind.i64.wrap 0 = 0 := by decide
  refine ⟨v,w,?_,by simpa using hown,grown_refl w _⟩
  rcases hown.2 with ⟨rfl,rfl⟩ | ⟨g,cap,cur,rfl,hbg,hg,hnc,hcm,hcs,htake⟩
  ·simp [Builtin.append_,run_underlying ht,run_underlying htn,sizeOf,typeInfo,hi,asInt,asIntOf,hw0]
  ·simp [Builtin.append_,run_underlying ht,run_underlying htn,sizeOf,typeInfo,hi,asInt,asIntOf,hw0,hnc,storeCells]
 ·have hns : ¬ (m * i.size = 0) := Nat.mul_ne_zero hm (by omega)
  have grown : ∀ (old : Nat),old < n + m → ∀ (row : Option Nat),
    (w.drew.alloc (.cells (xs.toArray ++ Builtin.zeroCells z.cells m ++ Builtin.zeroCells z.cells (grownCap w (n + m) old e - (n + m))) e)).ownsRow base e 1
     (.slice (some ⟨w.heap.size,0,none⟩) (n + m) (grownCap w (n + m) old e)) (n + m) (xs ++ List.replicate m z) ∧
    w.grownBy (w.drew.alloc (.cells (xs.toArray ++ Builtin.zeroCells z.cells m ++ Builtin.zeroCells z.cells (grownCap w (n + m) old e - (n + m))) e)) row := by
   intro old ho row
   have hge := grownCap_ge w (n + m) old e
   have hcm : grownCap w (n + m) old e ≤ maxLen := grownCap_le_maxLen w (n + m) old e h63
   have hxl := hown.1
   rw [hzs,zeroCells_one,zeroCells_one]
   refine ⟨⟨hlen,.inr ⟨w.heap.size,_,_,rfl,hbase,heap_alloc_new w.drew _,hge,hcm,?_,?_⟩⟩,⟨rfl,rfl,rfl,by simp,fun k hk _ => Below.heap_alloc w.drew _ k (by simpa using hk)⟩⟩
   ·simp only [Array.size_append,List.size_toArray,List.length_replicate]
    omega
   ·simp only [Array.toList_append,List.append_assoc]
    rw [← List.append_assoc,← hlen]
    exact List.take_left
  rcases hown.2 with ⟨rfl,rfl⟩ | ⟨g,cap,cur,rfl,hbg,hg,hnc,hcm,hcs,htake⟩
  ·have hx : xs = [] := List.eq_nil_of_length_eq_zero (by simpa using hown.1)
   subst hx
   have hr := Lib.run_append_nil_zeros (P := P) w t tn ty e i z kq kn ht htn hi hz m (by omega) (by omega) (by omega) (by omega)
   have hgr := grown 0 (by omega) (Value.ownBlock (.slice none 0 0))
   simp only [Nat.zero_add,List.nil_append,Array.empty_append] at hgr ⊢
   exact ⟨_,_,hr,hgr.1,hgr.2⟩
  ·by_cases hroom : n + m ≤ cap
   ·have hst := run_storeCells_at P g n e (List.replicate m z) 0 cur w hg (by rw [List.length_replicate];omega) (fun u hu => by rw [(List.mem_replicate.1 hu).2];exact hz1)
    simp only [Nat.add_zero] at hst
    have hz0 : (zeroValue e).run P w = .ok z w := by simp [zeroValue,typeInfo,hi,hz]
    have hr : (Builtin.append_ #[t,tn] ty #[.slice (some ⟨g,0,none⟩) n cap,.int kq m]).run P w = .ok (.slice (some ⟨g,0,none⟩) (n + m) cap) (w.setRow g (cur.toList.take n ++ List.replicate m z ++ cur.toList.drop (n + (List.replicate m z).length)).toArray) := by
     simp [Builtin.append_,run_underlying ht,run_underlying htn,sizeOf,typeInfo,hi,asInt,asIntOf,hw,hneg,h48i,hm,hsize,hz0,hzs,zeroCells_one,hroom,Addr.add_lit,hst]
    refine ⟨_,_,hr,⟨hlen,.inr ⟨g,cap,_,rfl,hbg,setRow_heap w g cur _ e _ hg,hroom,hcm,?_,?_⟩⟩,⟨rfl,rfl,rfl,by simp,fun k _ hk => setRow_other w g k _ (fun e => hk (by simp [Value.ownBlock,e]))⟩⟩
    ·simp only [List.size_toArray,List.length_append,List.length_take,List.length_drop,Array.length_toList,List.length_replicate]
     omega
    ·rw [Nat.mul_one] at htake
     rw [htake,← hlen]
     exact List.take_left
   ·have holds : ∀ j u,xs[j]? = some u → w.cell? ((⟨g,0,none⟩ : Addr).add j) = some u := hown.cells (g := g) rfl
    have hr := Lib.run_append_grow_zeros (P := P) w t tn ty e i z kq kn ht htn hi hz (some ⟨g,0,none⟩) n cap xs (run_firstCells_some (P := P) w.drew i.size n ⟨g,0,none⟩ n cap xs (by rw [hown.1,hsize]) holds) m (by omega) (by omega) (by omega) (by omega) (by omega) (growslice_fits (by omega) hbytes)
    have hgr := grown cap (by omega) (Value.ownBlock (.slice (some ⟨g,0,none⟩) n cap))
    exact ⟨_,_,hr,hgr.1,hgr.2⟩

theorem wpList_append_zeros {P : Program} {ops : Array Oper} {rest : List Oper} {o : Oper} {a : Act} {w : World} {Q : Exit → Act → World → Prop} (hgd : o.guard = none) (s x : Operand) (t tn : TypeId)
  (ho : o.op = .call { callee := .builtin .append,args := #[s,x],argTypes := #[t,tn] })
  (base : Nat) (e : TypeId) (i : TypeInfo) (z : Value) (kq kn : IntKind) (bytes : Nat) (ht : P.underlying t = some (.slice e)) (htn : P.underlying tn = some (.int kn)) (hi : P.info? e = some i) (hz : i.zero = some z)
  (hsize : i.size = 1) (hby : i.bytes = bytes) (hzs : z.cells = #[z]) (hz1 : z.oneCell' = true) (v : Value) (n : Nat) (xs : List Value) (hs : a.eval s = v) (hown : w.ownsRow base e 1 v n xs) (m : Nat) (hx : a.eval x = .int kq m) (h63 : n + m ≤ maxLen) (hbytes : (n + m) * bytes ≤ 140737488355328) (hbase : base ≤ w.heap.size)
  (h : ∀ a' c' w',w'.ownsRow base e 1 (.slice a' (n + m) c') (n + m) (xs ++ List.replicate m z) → Keeps w w' (match v.ownBlock with | some g => [g] | none => []) → wpList P ops Q rest (a.put o.dst (.slice a' (n + m) c')) w') :
  wpList P ops Q (o :: rest) a w := by
 obtain ⟨v',w',hr,h1,h2⟩ := run_append_zeros (P := P) (w := w) base t tn o.type e i z kq kn bytes ht htn hi hz hsize hby hzs hz1 v n xs hown m h63 hbytes hbase
 obtain ⟨a',c',rfl⟩ := own_form h1
 exact Lib.wpList_append_run w hgd s x t tn ho _ _ hs hx _ _ hr (h a' c' w' h1 (Keeps.of_grown h2 (fun k hk => by rw [hk];simp)))
end

section
open Go.RowKit

def RowI (w : World) (g n c : Nat) (L : List Int) : Prop := L.length = n ∧ w.ownsRow 0 3 1 (.slice (some ⟨g,0,none⟩) n c) n (L.map (.int .i64))

section
variable {w w' : World} {g n c : Nat} {L : List Int}
theorem RowI.at (h : RowI w g n c L) {i : Nat} {x : Int} (hx : L[i]? = some x) : w.cell? ⟨g,i,none⟩ = some (.int .i64 x) := by
 have hlt := (List.getElem?_eq_some_iff.1 hx).1
 rw [h.2.cellAt i (by have := h.1;omega),List.getElem?_map,hx];rfl
theorem RowI.frozen (h : RowI w g n c L) (i : Nat) : w.frozen? ⟨g,i,none⟩ = false := h.2.frozenAt i
theorem RowI.cap (h : RowI w g n c L) : n ≤ c := by
 rcases h.2.2 with ⟨h1,h2⟩ | ⟨g',cp,cur,h1,-,-,h4,-⟩
 ·cases h1
 ·cases h1;exact h4
theorem RowI.lt (h : RowI w g n c L) : g < w.heap.size := (h.2.lt g rfl).2
theorem RowI.set (h : RowI w g n c L) (i : Nat) (x : Int) : RowI (w.setCell ⟨g,i,none⟩ (.int .i64 x)) g n c (L.set i x) :=
 ⟨by rw [List.length_set];exact h.1,by rw [List.map_set];exact (h.2.stored i _).1⟩
theorem RowI.keeps {S : List Nat} (h : RowI w g n c L) (k : Keeps w w' S) (hn : g ∉ S) : RowI w' g n c L := by
 refine ⟨h.1,?_⟩
 obtain ⟨h1,h2⟩ := h.2
 refine ⟨h1,?_⟩
 rcases h2 with h2 | ⟨g',cp,cur,e,hg,hb,r⟩
 ·exact .inl h2
 ·cases e
  exact .inr ⟨g,c,cur,rfl,hg,(k.block g (Array.getElem?_eq_some_iff.1 hb).1 hn).trans hb,r⟩
theorem RowI.drew (h : RowI w g n c L) : RowI w.drew g n c L := h
theorem RowI.drewN (h : RowI w g n c L) (m : Nat) : RowI (w.drewN m) g n c L := h
theorem RowI.reads (h : RowI w g n c L) : RdI .i64 w (.slice (some ⟨g,0,none⟩) n c) L := by
 have h2 := h.2
 rw [← h.1] at h2 ⊢
 exact own_reads h2
end

theorem rowI_own {w : World} {base : Nat} {g n c : Nat} {L : List Int} (hl : L.length = n) (h : w.ownsRow base 3 1 (.slice (some ⟨g,0,none⟩) n c) n (L.map (.int .i64))) : RowI w g n c L := ⟨hl,own_base h (Nat.zero_le _)⟩
end

section
open Go.RowKit

theorem rstates_any (x : Int) (w : World) : Calls Tryz.prog 76 #[.int .i64 x] w fun e w' => e = .returned (.int .i64 (stN x)) ∧ w = w' := by
 by_cases h : x = -1
 ·subst h
  go_enter Tryz.func76,Tryz.ntmps76
  go_wp2
  go_ret
  exact ⟨rfl,rfl⟩
 ·have h1 : (x == -1) = false := by simpa using h
  have h2 : stN x = x := if_neg h
  rw [h2]
  go_enter Tryz.func76,Tryz.ntmps76
  go_wp2
  go_ret
  exact ⟨rfl,rfl⟩

theorem rsize_any (g : Int) (w : World) (h0 : 0 ≤ g) (h9 : g ≤ 9) : Calls Tryz.prog 77 #[.int .i64 g] w fun e w' => e = .returned (.int .i64 (2 ^ g.toNat)) ∧ w = w' := by
 obtain ⟨n,rfl⟩ := Int.eq_ofNat_of_zero_le h0
 have hn : n ≤ 9 := by omega
 have h1 : decide ((n : Int) < 0) = false := by simp
 have h2 : decide ((20 : Int) < (n : Int)) = false := by simp;omega
 have hE : (2 : Int) ^ ((n : Int).toNat) = 2 ^ n := by simp
 rw [hE]
 clear h0 h9 hE
 go_enter Tryz.func77,Tryz.ntmps77
 go_wp2_with fail
 go_loop [3,4] (fun s i => ∃ k : Nat,k ≤ n ∧ s = .int .i64 (2 ^ k) ∧ i = .int .i64 k) (fun _ i => n - (intOf i).toNat)
 case atStart => exact ⟨0,Nat.zero_le _,rfl,rfl⟩
 case round =>
  obtain ⟨k,hk,rfl,rfl⟩ := hrel
  by_cases hlt : k < n
  ·have hkn : (k : Int) < (n : Int) := by omega
   have hp : wrap64 (2 * 2 ^ k) = 2 ^ (k + 1) := by
    have h9 := pow9 (g := (k : Int)) (by omega)
    simp only [Int.toNat_natCast] at h9
    rw [IntWalk.wrap64_in _ ⟨by omega,by omega⟩,Int.pow_succ]
    omega
   go_wp2_with fail
   go_round
   case rel => exact ⟨k + 1,by omega,(by first | rfl | trivial | exact hp | simp [hp]),by go_num⟩
   case measure => simp [intOf];omega
  ·have : k = n := by omega
   subst this
   go_wp2_with fail
   go_ret
   exact ⟨rfl,rfl⟩

set_option maxHeartbeats 4000000 in
theorem rmay_any (g sy lg : Int) (v : Value) (l : List Int) (w : World) (hv : RdI .i64 w v l) (hn : l.length ≤ 1000000) (hg9 : lg ≤ 9) :
  Calls Tryz.prog 46 #[.agg #[.int .i64 g,v],.int .i64 sy,.int .i64 lg] w fun e w' => e = .returned (.int .i64 (if okN g l sy lg then 0 else 13)) ∧ Keeps w w' [] := by
 obtain ⟨A0,n,cp0,rfl,hnl,-⟩ := hv.form
 have k0 := (Keeps.refl w []).alloc (.cells #[.int .i64 g,.slice A0 n cp0] 27)
 have HV := Lib.hid (hv.keeps k0)
 have bt := Blk.new w #[.int .i64 g,.slice A0 n cp0] 27
 have HN := Lib.hid hnl
 have hn' : n ≤ 1000000 := by omega
 obtain ⟨E,hE⟩ : ∃ E : Int,(if okN g l sy lg then 0 else 13) = E := ⟨_,rfl⟩
 have HE := Lib.hid hE
 have HE0 : Hid (okN g l sy lg = false → E = 13) := fun h => by rw [← HE.out,h];rfl
 rw [hE]
 clear hv hnl hn hE
 obtain ⟨R1,e1⟩ : ∃ R,decide (g < 0) = R := ⟨_,rfl⟩
 obtain ⟨R2,e2⟩ : ∃ R,decide (lg < g) = R := ⟨_,rfl⟩
 obtain ⟨R3,e3⟩ : ∃ R,decide (9 < g) = R := ⟨_,rfl⟩
 by_cases hn0 : n = 0
 ·subst hn0
  clear bt
  have hno : Hid (E = 13) := HE0.out (okN_false (fun h => by have := HN.out;omega))
  go_enter Tryz.func46,Tryz.ntmps46
  go_wp2_with fail
  all_goals
   go_ret
   exact ⟨by rw [hno.out];rfl,k0⟩
 obtain ⟨m,rfl⟩ : ∃ m,n = m + 1 := ⟨n - 1,by omega⟩
 obtain ⟨y,hy⟩ : ∃ y,l[m]? = some y := ⟨_,List.getElem?_eq_getElem (by have := HN.out;omega)⟩
 have HY : Hid (l.getD (l.length - 1) 0 = y) := by
  show _ = _
  rw [← HN.out,Nat.add_sub_cancel,List.getD_eq_getElem?_getD,hy];rfl
 obtain ⟨bb,o,rfl,hbb,hc⟩ := HV.out.at hy
 have hcap := HV.out.cap
 obtain ⟨R4,e4⟩ : ∃ R,decide (sy < ((m : Int) + 1)) = R := ⟨_,rfl⟩
 obtain ⟨R5,e5⟩ : ∃ R,(y == 0) = R := ⟨_,rfl⟩
 have HX : Hid (R1 = true ∨ R2 = true ∨ R3 = true ∨ R4 = true ∨ R5 = true → E = 13) := fun h => HE0.out (okN_false (fun q => by
  have hl := HN.out
  obtain ⟨q1,q2,q3,q4,q5,-,-⟩ := q
  rw [HY.out] at q5
  rcases h with h | h | h | h | h
  ·rw [h] at e1;simp at e1;omega
  ·rw [h] at e2;simp at e2;omega
  ·rw [h] at e3;simp at e3;omega
  ·rw [h] at e4;simp at e4;omega
  ·rw [h] at e5;simp at e5;exact q5 e5))
 have HG : Hid (R1 = false → R2 = false → R4 = false → R5 = false → 0 ≤ g ∧ g ≤ lg ∧ (∀ (h6 : ∀ n ∈ l,-1 ≤ n),E = if sumN l = 2 ^ g.toNat then 0 else 13)) := fun h1 h2 h4 h5 => by
  have a1 : 0 ≤ g := by rw [← e1] at h1;simp at h1;omega
  have a2 : g ≤ lg := by rw [← e2] at h2;simp at h2;omega
  have a4 : (l.length : Int) ≤ sy := by rw [← e4] at h4;simp at h4;have := HN.out;omega
  have a5 : y ≠ 0 := by rw [← e5] at h5;simpa using h5
  refine ⟨a1,a2,fun h6 => ?_⟩
  rw [← HE.out,okN_sum a1 a2 (by have := HN.out;omega) a4 (by rw [HY.out];exact a5) h6]
  simp
 clear hy
 have hz0 : decide ((m : Int) + 1 < 1) = false := by simp;omega
 go_enter Tryz.func46,Tryz.ntmps46
 go_wp2_with fail
 all_goals first
  | (go_ret;exact ⟨by rw [HX.out (by simp [*])];rfl,k0⟩)
  | skip
 have hg3 := HG.out (by simp_all) (by simp_all) (by simp_all) (by simp_all)
 obtain ⟨g0,glg,HEE0⟩ := hg3
 have HEE := Lib.hid HEE0
 have HS := Lib.hid (fun w1 => rsize_any g w1 g0 (by omega))
 have HP2 := Lib.hid (pow9 (g := g) (by omega))
 clear HX HG e1 e2 e3 e4 e5 HY hc hz0 HEE0
 obtain rfl : R4 = false := by simp_all
 obtain rfl : R5 = false := by simp_all
 generalize hP : (2 : Int) ^ g.toNat = P2 at *
 have HPE := Lib.hid hP
 generalize hW0 : (w.alloc (.cells #[.int .i64 g,.slice (some ⟨bb,o,none⟩) (m + 1) cp0] 27)) = W0 at *
 clear hW0 hP
 have c0 := bt.cell 0
 have c1 := bt.cell 1
 simp at c0 c1
 go_loopw [7,8] (fun s7 s8 wr => ∃ k : Nat,k ≤ m + 1 ∧ s7 = .int .i64 (sumN (l.take k)) ∧ s8 = .int .i64 k ∧ wr = W0 ∧ Hid (∀ x ∈ l.take k,-1 ≤ x) ∧ Hid (sumN (l.take k) ≤ 1024)) (fun _ s8 _ => m + 1 - (intOf s8).toNat)
 case atStart => exact ⟨0,Nat.zero_le _,by simp [sumN],rfl,rfl,by show ∀ x ∈ _,_;simp,by show _ ≤ _;simp [sumN]⟩
 case round =>
  obtain ⟨k,hk,rfl,rfl,rfl,hge,hle⟩ := hrel
  by_cases hlt : k < m + 1
  ·obtain ⟨x,hx⟩ : ∃ x,l[k]? = some x := ⟨_,List.getElem?_eq_getElem (by have := HN.out;omega)⟩
   obtain ⟨bb',o',e',hbb',hcx⟩ := HV.out.at hx
   cases e'
   have hkn : (k : Int) < (m : Int) + 1 := by omega
   have hk0 : (0 : Int) ≤ (k : Int) := Int.natCast_nonneg _
   have HXg := Lib.hid hx
   clear hx
   have hle' := hle.out
   have hs0 := sumN_nonneg hge.out
   have hP2 := HP2.out.2
   have HBIG : Hid ((x < -1 ∨ 512 < x ∨ 512 < sumN (l.take k)) → E = 13) := fun h => HE0.out (by
    rcases (by omega : x < -1 ∨ -1 ≤ x) with h1 | h1
    ·exact okN_low HXg.out h1
    ·refine okN_big HXg.out ?_
     rw [HPE.out]
     have h2 := stN_nonneg h1
     have h3 := stN_max h1
     omega)
   by_cases hbad : x < -1 ∨ 512 < x ∨ 512 < sumN (l.take k)
   ·have F13 : Hid (E = 13) := HBIG.out hbad
    obtain ⟨Q1,f1⟩ : ∃ R,decide (x < -1) = R := ⟨_,rfl⟩
    obtain ⟨Q2,f2⟩ : ∃ R,decide (512 < x) = R := ⟨_,rfl⟩
    obtain ⟨Q3,f3⟩ : ∃ R,decide (512 < sumN (l.take k)) = R := ⟨_,rfl⟩
    have hq : (Q1 || (Q2 || Q3)) = true := by rw [← f1,← f2,← f3];simpa using hbad
    have HQ := Lib.hid hq
    clear hbad hs0 hle' hP2 hq
    go_wp2_with fail
    all_goals first
     | (go_ret;exact ⟨by rw [F13.out];rfl,k0⟩)
     | (exfalso;have := HQ.out;simp_all)
   ·have f1 : decide (x < -1) = false := by simp;omega
    have f2 : decide (512 < x) = false := by simp;omega
    have f3 : decide (512 < sumN (l.take k)) = false := by simp;omega
    have hge1 : -1 ≤ x := by omega
    have hst := stN_nonneg hge1
    have hst2 := stN_max hge1
    have NS := Lib.hid (sumN_take HXg.out)
    have hw2 : wrap64 (sumN (l.take k) + stN x) = sumN (l.take k) + stN x := IntWalk.wrap64_in _ ⟨by omega,by omega⟩
    have NG : Hid (∀ y ∈ l.take (k + 1),-1 ≤ y) := by
     show ∀ y ∈ _,_
     rw [take_next HXg.out]
     intro y hy
     rcases List.mem_append.1 hy with hy | hy
     ·exact hge.out y hy
     ·rw [List.mem_singleton.1 hy];omega
    have NL : Hid (sumN (l.take (k + 1)) ≤ 1024) := by show _ ≤ _;rw [NS.out];omega
    clear hbad hs0 hle' hP2 hst hst2 hge1
    generalize sumN (l.take k) = SK at *
    go_wp2_with (go_at_call 76;refine (rstates_any x _).mono ?_;rintro e w5 ⟨rfl,rfl⟩)
    go_roundw
    case rel => exact ⟨k + 1,by omega,(by first | rw [NS.out,hw2] | rw [NS.out]),by go_num,(by first | rfl | trivial),NG,NL⟩
    case measure => simp [intOf];omega
  ·have : k = m + 1 := by omega
   subst this
   have hT : l.take (m + 1) = l := List.take_of_length_le (by have := HN.out;omega)
   rw [hT] at hge hle ⊢
   have F := Lib.hid (HEE.out hge.out)
   have hkn : ¬ ((m : Int) + 1 < (m : Int) + 1) := by omega
   by_cases hq : sumN l = P2
   ·have gq : (sumN l != P2) = false := by simpa using hq
    rw [if_pos hq] at F
    clear hq hT
    generalize sumN l = SL at *
    go_wp2_with (go_at_call 77;refine (HS.out _).mono ?_;rintro e w5 ⟨rfl,rfl⟩)
    go_ret
    exact ⟨by rw [F.out];rfl,k0⟩
   ·have gq : (sumN l != P2) = true := by simpa using hq
    rw [if_neg hq] at F
    clear hq hT
    generalize sumN l = SL at *
    go_wp2_with (go_at_call 77;refine (HS.out _).mono ?_;rintro e w5 ⟨rfl,rfl⟩)
    go_ret
    exact ⟨by rw [F.out];rfl,k0⟩
end

section
def tb (R : List Bool) (n : Nat) : Except Int (Nat × List Bool) := if n ≤ R.length then .ok (valL (R.drop (R.length - n)),R.take (R.length - n)) else .error 14
theorem tb_ok {R : List Bool} {n : Nat} (h : n ≤ R.length) : tb R n = .ok (valL (R.drop (R.length - n)),R.take (R.length - n)) := if_pos h
theorem tb_no {R : List Bool} {n : Nat} (h : R.length < n) : tb R n = .error 14 := if_neg (by omega)
theorem tb_lt {R R1 : List Bool} {n t : Nat} (h : tb R n = .ok (t,R1)) : t < 2 ^ n ∧ R1.length + n = R.length := by
 unfold tb at h
 split at h
 ·rename_i hn
  injection h with h
  injection h with h1 h2
  subst h1 h2
  refine ⟨?_,by simp;omega⟩
  have := valL_lt (R.drop (R.length - n))
  rwa [List.length_drop,show R.length - (R.length - n) = n by omega] at this
 ·cases h

abbrev Cel := Nat × Nat × Nat
def flowG (c : Nat → Cel) : Nat → List Bool → Nat → Nat → List Int → Except Int (List Int)
 | 0,R,_,_,out => if R.length = 0 then .ok out else .error 14
 | k + 1,R,now,other,out =>
  if 2 ≤ k then
   match tb R (c now).2.1 with
   | .error e => .error e
   | .ok (v,R1) => flowG c k R1 other ((c now).2.2 + v) (out ++ [((c now).1 : Int)])
  else flowG c k R other now (out ++ [((c now).1 : Int)])

def flowP (c : Nat → Cel) (log n : Nat) (R : List Bool) : Except Int (List Int) :=
 match (if 0 < n then tb R log else .ok (0,R)) with
 | .error e => .error e
 | .ok (a,R1) => match (if 1 < n then tb R1 log else .ok (0,R1)) with
  | .error e => .error e
  | .ok (b,R2) => flowG c n R2 a b []

theorem cell_in {log x : Nat} (h0 : 0 < x) (h : x < 2 * 2 ^ log) : x.log2 ≤ log ∧ 2 ^ log ≤ x * 2 ^ (log - x.log2) ∧ (x + 1) * 2 ^ (log - x.log2) ≤ 2 * 2 ^ log := by
 have h1 : 2 ^ x.log2 ≤ x := (Nat.le_log2 (by omega)).1 (Nat.le_refl _)
 have h2 : x < 2 ^ (x.log2 + 1) := (Nat.log2_lt (by omega)).1 (Nat.lt_succ_self _)
 have h3 : x.log2 ≤ log := by
  have h4 : x.log2 < log + 1 := (Nat.log2_lt (by omega)).2 (by rw [Nat.pow_succ];omega)
  omega
 have h5 : 2 ^ log = 2 ^ x.log2 * 2 ^ (log - x.log2) := by rw [← Nat.pow_add,show x.log2 + (log - x.log2) = log by omega]
 refine ⟨h3,?_,?_⟩
 ·rw [h5];exact Nat.mul_le_mul_right _ h1
 ·have h6 : x + 1 ≤ 2 * 2 ^ x.log2 := by rw [Nat.pow_succ] at h2;omega
  rw [h5,← Nat.mul_assoc]
  exact Nat.mul_le_mul_right _ h6
end

end Go.Proofs.YtcmagccfagijlaaGreat
