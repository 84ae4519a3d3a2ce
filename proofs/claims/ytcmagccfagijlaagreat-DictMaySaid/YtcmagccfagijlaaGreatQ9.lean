/-
  Varints. No program is in sight here.
  Histograms: the plain law; lists of byte slices in memory. No program is in sight here.
  The iterator over the bytes of a varint.
  The idiom append([]T{}, x...): a copy of a slice of numbers in memory of the call's own. No program is in sight here.
  A result of type bool that lies in a cell; a function value is not nil.
-/
import Derived.Test.YtcmagccfagijlaaGreatQ1
import Derived.Test.YtcmagccfagijlaaGreatQ8
import Derived.IntWalk
import Derived.BigFrameIn
import Derived.Test.YtcmagccfagijlaaGreatRows
import Derived.Test.YtcmagccfagijlaaGreatQ6
namespace Go.Proofs.YtcmagccfagijlaaGreat
section
set_option linter.unusedVariables false
set_option linter.unusedSimpArgs false

/-- The bytes of a varint. -/
def varI (n : Nat) : List Int := if h : n < 128 then [(n : Int)] else ((n % 128 + 128 : Nat) : Int) :: varI (n / 128)
termination_by n
decreasing_by omega
theorem varI_small {n : Nat} (h : n < 128) : varI n = [(n : Int)] := by rw [varI, dif_pos h]
theorem varI_step {n : Nat} (h : 128 ≤ n) : varI n = ((n % 128 + 128 : Nat) : Int) :: varI (n / 128) := by rw [varI, dif_neg (by omega)]
theorem varI_pos (n : Nat) : 0 < (varI n).length := by
  rw [varI]; split <;> simp
theorem varI_len (d : Nat) : ∀ n : Nat, n < 128 ^ (d + 1) → (varI n).length ≤ d + 1 := by
  induction d with
  | zero => intro n h; rw [varI_small (by simpa using h)]; simp
  | succ d ih =>
    intro n h
    by_cases hn : n < 128
    · rw [varI_small hn]; simp
    · rw [varI_step (by omega), List.length_cons]
      have := ih (n / 128) (by rw [Nat.pow_succ] at h; omega)
      omega
theorem varI_byte {n : Nat} {x : Int} (h : x ∈ varI n) : 0 ≤ x ∧ x ≤ 255 := by
  induction n using Nat.strongRecOn with
  | _ n ih =>
    by_cases hn : n < 128
    · rw [varI_small hn] at h
      rw [List.mem_singleton.1 h]; omega
    · rw [varI_step (by omega)] at h
      rcases List.mem_cons.1 h with h | h
      · rw [h]; omega
      · exact ih _ (by omega) h
end

section
set_option linter.unusedVariables false
set_option linter.unusedSimpArgs false
open Go.RowKit

/-- One byte more. -/
def bump (h : List Int) (c : Int) : List Int := h.set c.toNat (if h.getD c.toNat 0 + 1 < 2147483648 then h.getD c.toNat 0 + 1 else 2147483648)
def histF (h : List Int) (l : List Int) : List Int := l.foldl bump h
def histL (l : List Int) : List Int := histF (List.replicate 256 0) l
def ints (h : List Int) : Array Value := (h.map (Value.int .i64)).toArray

theorem bump_len (h : List Int) (c : Int) : (bump h c).length = h.length := by simp [bump]
theorem histF_len (l : List Int) : ∀ h : List Int, (histF h l).length = h.length := by
  induction l with
  | nil => intro h; rfl
  | cons c l ih => intro h; exact (ih _).trans (bump_len h c)
theorem histF_snoc (h l : List Int) (c : Int) : histF h (l ++ [c]) = bump (histF h l) c := by simp [histF]
theorem histF_append (h l m : List Int) : histF h (l ++ m) = histF (histF h l) m := by simp [histF]
/-- All entries are counts. -/
def Counts (h : List Int) : Prop := h.length = 256 ∧ ∀ x ∈ h, 0 ≤ x ∧ x ≤ 2147483648
theorem Counts.zero : Counts (List.replicate 256 0) := ⟨List.length_replicate, fun x hx => by have := (List.mem_replicate.1 hx).2; omega⟩
theorem Counts.get {h : List Int} (hc : Counts h) {i : Nat} (hi : i < 256) : ∃ x, h[i]? = some x ∧ 0 ≤ x ∧ x ≤ 2147483648 := by
  have hlt : i < h.length := by rw [hc.1]; exact hi
  exact ⟨_, List.getElem?_eq_getElem hlt, hc.2 _ (List.getElem_mem hlt)⟩
theorem Counts.bump {h : List Int} (hc : Counts h) {c : Int} (h0 : 0 ≤ c) (h1 : c ≤ 255) : Counts (bump h c) := by
  refine ⟨by rw [bump_len]; exact hc.1, fun x hx => ?_⟩
  obtain ⟨y, hy, hy0, hy1⟩ := hc.get (i := c.toNat) (by omega)
  have hg : h.getD c.toNat 0 = y := by simp [List.getD, hy]
  unfold Go.Proofs.YtcmagccfagijlaaGreat.bump at hx
  rw [hg] at hx
  rcases List.mem_or_eq_of_mem_set hx with hx | rfl
  · exact hc.2 x hx
  · split <;> omega
theorem Counts.histF {l : List Int} (hl : ∀ x ∈ l, 0 ≤ x ∧ x ≤ 255) : ∀ {h : List Int}, Counts h → Counts (histF h l) := by
  induction l with
  | nil => intro h hc; exact hc
  | cons c l ih => intro h hc; exact ih (fun x hx => hl x (by simp [hx])) (hc.bump (hl c (by simp)).1 (hl c (by simp)).2)

theorem ints_get {h : List Int} {i : Nat} {x : Int} (hx : h[i]? = some x) : (ints h)[i]? = some (.int .i64 x) := by simp [ints, hx]
theorem ints_set (h : List Int) (i : Nat) (x : Int) : (ints h).setIfInBounds i (.int .i64 x) = ints (h.set i x) := by simp [ints, List.map_set]
theorem ints_size (h : List Int) : (ints h).size = h.length := by simp [ints]

/-- A slice of slices of numbers reads as a list of lists. -/
structure RdL (k : IntKind) (w : World) (v : Value) (ls : List (List Int)) : Prop where
  form : ∃ a n cp, v = .slice a n cp ∧ n = ls.length ∧ (0 < n → n ≤ cp ∧ ∃ b o, a = some ⟨b, o, none⟩ ∧ b < w.heap.size ∧ ∀ i l, ls[i]? = some l → ∃ vi, w.cell? ⟨b, o + i, none⟩ = some vi ∧ RdI k w vi l)

section
variable {k : IntKind} {w w' : World} {v : Value} {ls : List (List Int)} {a : Option Addr} {n cp : Nat}
theorem RdL.keeps (h : RdL k w v ls) (kk : Keeps w w' []) : RdL k w' v ls := by
  obtain ⟨a, n, cp, rfl, hn, hc⟩ := h.form
  refine ⟨a, n, cp, rfl, hn, fun hp => ?_⟩
  obtain ⟨h1, b, o, h2, h3, h4⟩ := hc hp
  refine ⟨h1, b, o, h2, Nat.lt_of_lt_of_le h3 kk.size, fun i l hl => ?_⟩
  obtain ⟨vi, h5, h6⟩ := h4 i l hl
  exact ⟨vi, (kk.cell (p := ⟨b, o + i, none⟩) h3 (by simp)).trans h5, h6.keeps kk⟩
theorem RdL.at (h : RdL k w (.slice a n cp) ls) {i : Nat} {l : List Int} (hx : ls[i]? = some l) : ∃ b o vi, a = some ⟨b, o, none⟩ ∧ b < w.heap.size ∧ w.cell? ⟨b, o + i, none⟩ = some vi ∧ RdI k w vi l ∧ n ≤ cp := by
  obtain ⟨a', n', cp', he, hl, hc⟩ := h.form
  obtain ⟨h1, h2, h3⟩ := Value.slice.inj he
  subst h1 h2 h3
  have hlt := (List.getElem?_eq_some_iff.1 hx).1
  obtain ⟨h0, b, o, h2, h3, h4⟩ := hc (by omega)
  obtain ⟨vi, h5, h6⟩ := h4 i l hx
  exact ⟨b, o, vi, h2, h3, h5, h6, h0⟩
theorem RdL.len (h : RdL k w (.slice a n cp) ls) : n = ls.length := by
  obtain ⟨a', n', cp', he, hl, -⟩ := h.form
  obtain ⟨h1, h2, h3⟩ := Value.slice.inj he
  rw [h2, hl]
end
end

section
set_option linter.unusedVariables false
set_option linter.unusedSimpArgs false
set_option linter.unusedSectionVars false
open Go.RowKit

abbrev encB (x : Int) : Array Value := #[.int .u8 x]
def cellN (b : Nat) (w : World) : Nat := match w.cell? ⟨b, 0, none⟩ with | some (.int _ q) => q.toNat | _ => 0

theorem opIn_val {n : Nat} {P : Program} {o : Oper} {a : Act} {w w' : World} {K : Act → World → Prop} {Q : Exit → Act → World → Prop} {v : Value} (h : (execOp a.eval o).run P w = .ok (.value v) w') (hK : K (a.put o.dst v) w') : o.wpIn Fence.wide n P a w K Q := by
  refine ⟨fun _ _ => trivial, ?_⟩
  show Oper.uponIn Fence.wide n P o a K Q ((execOp a.eval o).run P w)
  rw [h]
  exact hK
theorem opIn_skip {n : Nat} {P : Program} {o : Oper} {a : Act} {w w' : World} {K : Act → World → Prop} {Q : Exit → Act → World → Prop} (h : (execOp a.eval o).run P w = .ok .skip w') (hK : K (a.put o.dst undef) w') : o.wpIn Fence.wide n P a w K Q := by
  refine ⟨fun _ _ => trivial, ?_⟩
  show Oper.uponIn Fence.wide n P o a K Q ((execOp a.eval o).run P w)
  rw [h]
  exact hK
theorem semAt_wide (ρ : Operand → Value) (o : Oper) : Oper.semAt Fence.wide.round ρ o = execOp ρ o := rfl
attribute [local go_sem] Oper.semAt_some semAt_wide Oper.about

theorem or128_all : ∀ r : Fin 256, bits BinOp.or IntKind.u8 ((r.val : Nat) : Int) 128 = ((r.val % 128 + 128 : Nat) : Int) := by decide +kernel
theorem or128 (q : Nat) : bits BinOp.or IntKind.u8 ((q : Int) % 256) 128 = ((q % 128 + 128 : Nat) : Int) := by
  have h := or128_all ⟨q % 256, Nat.mod_lt _ (by decide)⟩
  simp only at h
  rw [show ((q % 256 : Nat) : Int) = (q : Int) % 256 by omega] at h
  rw [h]
  congr 2
  omega
theorem cellN_eq {b : Nat} {w : World} {k : IntKind} {q : Nat} {T : TypeId} (h : Blk w b #[.int k (q : Int)] T) : cellN b w = q := by
  obtain ⟨c, -⟩ := h.one
  simp [cellN, c]

set_option maxRecDepth 100000 in
set_option maxHeartbeats 2000000 in
theorem parts1_seq (bn n : Nat) (w : World) (hn : n < 18446744073709551616) (hbn : Blk w bn #[.int .u64 (n : Int)] 95) :
    SeqY Tryz.prog 148 #[.pointer (some ⟨bn, 0, none⟩)] encB [bn] (fun W => ∃ q : Nat, Blk W bn #[.int .u64 (q : Int)] 95)
      (fun ys => ys = varI n) (fun pre => pre <+: varI n) w := by
  intro lo J Jx W hW hJ hJx hY h0
  have hbn' : Blk W bn #[.int .u64 (n : Int)] 95 := (hW bn (by simp)).trans hbn
  have HY := Lib.hid hY
  have HJ := Lib.hid hJ
  clear hbn hY hJ hJx
  refine callsIn_of_wp Tryz.func148 rfl trivial ?_ rfl
  simp only [Tryz.ntmps148, List.size_toArray, List.length_cons, List.length_nil, Nat.reduceAdd, Nat.reduceSub, Array.replicate_succ, Array.replicate_zero, List.push_toArray, List.append_toArray, List.nil_append, List.cons_append]
  gi_wp2
  gi_loopw [] (fun wr => ∃ (pre : List Int) (q : Nat), q < 18446744073709551616 ∧ Hid (varI n = pre ++ varI q) ∧ Blk wr bn #[.int .u64 (q : Int)] 95 ∧ Hid (J pre wr))
    (fun wr => cellN bn wr)
  case atStart => exact ⟨[], n, hn, rfl, hbn', h0⟩
  case round =>
    obtain ⟨pre, q, hq, hp, hbq, hJs⟩ := hrel
    obtain ⟨e3, -⟩ := hbq.one
    have hbf := hbq.frozen 0
    by_cases h128 : 128 ≤ q
    · have h128' : (128 : Int) ≤ (q : Int) := by omega
      have HOR := Lib.hid (or128 q)
      have hv := Lib.hid (varI_step h128)
      have hyy := HY.out pre ((q % 128 + 128 : Nat) : Int) wr hJs.out ⟨_, hbq⟩ ⟨varI (q / 128), by rw [hp.out, hv.out]; simp⟩
      obtain ⟨fn, tmps, assign, body, hy, hR⟩ := hyy
      dsimp only [encB] at hy
      have HQ := Lib.hid (cellN_eq hbq)
      obtain ⟨x, hx⟩ : ∃ x : Int, x = ((q % 128 + 128 : Nat) : Int) := ⟨_, rfl⟩
      rw [← hx] at HOR hv hy hR
      have HBQ := Lib.hid hbq
      clear hx hbq
      have hor := HOR.out
      gi_wp2
      refine (round_any hR).mono ?_
      rintro e W3 ⟨hk3, (⟨rfl, hJ3⟩ | ⟨rfl, hJx3⟩)⟩
      · have hb3 : Blk W3 bn #[.int .u64 (q : Int)] 95 := (hk3 bn (by simp)).trans HBQ.out
        obtain ⟨c3, -⟩ := hb3.one
        have f3 := hb3.frozen 0
        have hlt3 := hb3.lt
        have eq7 : (q : Int) / 128 = ((q / 128 : Nat) : Int) := by omega
        have NB : Hid (Blk (W3.setCell ⟨bn, 0, none⟩ (.int .u64 ((q / 128 : Nat) : Int))) bn #[.int .u64 ((q / 128 : Nat) : Int)] 95) := by
          have := hb3.set 0 (.int .u64 ((q / 128 : Nat) : Int))
          exact this
        have kk3 : Keeps W3 (W3.setCell ⟨bn, 0, none⟩ (.int .u64 ((q / 128 : Nat) : Int))) [bn] := (Keeps.refl W3 [bn]).setCell (.inr (by simp)) _
        have NJ : Hid (J (pre ++ [x]) (W3.setCell ⟨bn, 0, none⟩ (.int .u64 ((q / 128 : Nat) : Int)))) := HJ.out _ _ _ hJ3 kk3
        have NP : Hid (varI n = (pre ++ [x]) ++ varI (q / 128)) := by show _ = _; rw [hp.out, hv.out]; simp
        have NQ := Lib.hid (cellN_eq NB.out)
        clear hJ3 hk3 kk3
        gi_wp2
        refine opIn_val (v := .int .u64 ((q / 128 : Nat) : Int)) (w' := W3) (by simp [execOp, go_sem]) ?_
        simp only [Act.put, List.setIfInBounds_toArray, List.set_cons_succ, List.set_cons_zero]
        gi_wp2
        refine opIn_skip (w' := W3.setCell ⟨bn, 0, none⟩ (.int .u64 ((q / 128 : Nat) : Int))) (by simp [execOp, go_sem, Tryz.isAgg95, c3, f3]) ?_
        gi_wp2
        simp only [Act.put]
        go_roundw
        case rel => exact ⟨pre ++ [x], q / 128, by omega, NP, NB.out, NJ⟩
        case measure => rw [HQ.out, NQ.out]; omega
      · gi_wp2
        refine bodyPost_ret (v := .tuple #[]) (by simp [results, Tryz.results148]) rfl ⟨⟨_, rfl⟩, .inr ⟨_, ?_, hJx3⟩⟩
        exact ⟨varI (q / 128), by rw [hp.out, hv.out]; simp⟩
    · have h128' : decide ((128 : Int) ≤ (q : Int)) = false := decide_eq_false (by omega)
      have hv := Lib.hid (varI_small (n := q) (by omega))
      have hyy := HY.out pre (q : Int) wr hJs.out ⟨_, hbq⟩ ⟨[], by rw [hp.out, hv.out]; simp⟩
      obtain ⟨fn, tmps, assign, body, hy, hR⟩ := hyy
      dsimp only [encB] at hy
      gi_wp2
      refine (round_any hR).mono ?_
      rintro e W3 ⟨hk3, (⟨rfl, hJ3⟩ | ⟨rfl, hJx3⟩)⟩
      · gi_wp2
        go_end0
        exact ⟨⟨_, rfl⟩, .inl ⟨_, by rw [hp.out, hv.out], hJ3⟩⟩
      · gi_wp2
        go_end0
        exact ⟨⟨_, rfl⟩, .inr ⟨_, ⟨[], by rw [hp.out, hv.out]; simp⟩, hJx3⟩⟩
end

section
set_option linter.unusedVariables false
set_option linter.unusedSimpArgs false
open Go.RowKit

/-- An empty slice literal. -/
theorem run_build0 {P : Program} (w : World) (t e : TypeId) (ie : TypeInfo) (z : Value)
    (hu : P.underlying t = some (.slice e)) (hie : P.info? e = some ie) (hz : ie.zero = some z) :
    (Instr.buildSlice t 0 #[]).run P w = .ok (.slice (some ⟨w.heap.size, 0, none⟩) 0 0) (w.alloc (.cells #[] e)) := by
  have h0 : Array.range 0 = #[] := rfl
  simp [Instr.buildSlice, run_underlying hu, sizeOf, typeInfo, zeroValue, hie, hz, newRow, Instr.fill, h0]

theorem wpList_build0 {P : Program} {ops : Array Oper} {rest : List Oper} {o : Oper} {a : Act} {w : World} {Q : Exit → Act → World → Prop} (hg : o.guard = none) (t e : TypeId) (ho : o.op = .buildSlice t 0 #[])
    (ie : TypeInfo) (z : Value) (size : Nat)
    (hu : P.underlying t = some (.slice e)) (hie : P.info? e = some ie) (hz : ie.zero = some z)
    (h : ∀ v, (w.alloc (.cells #[] e)).ownsRow w.heap.size e size v 0 [] → v.ownBlock = some w.heap.size → v ≠ .slice none 0 0 → wpList P ops Q rest (a.put o.dst v) (w.alloc (.cells #[] e))) : wpList P ops Q (o :: rest) a w := by
  refine wpList_plain hg fun K hK => ?_
  unfold Oper.wp execOp
  simp only [ho, Sem.run_bind, Array.map_empty, run_build0 w t e ie z hu hie hz, Result.andThen_ok]
  exact hK _ _ (h _ ⟨by simp, .inr ⟨_, 0, #[], rfl, Nat.le_refl _, heap_alloc_new w _, Nat.le_refl _, by decide, by simp, by simp⟩⟩ rfl (by simp))

theorem wpList_move {P : Program} {ops : Array Oper} {rest : List Oper} {o : Oper} {a : Act} {w : World} {Q : Exit → Act → World → Prop} (hg : o.guard = none) (x : Operand) (ho : o.op = .move x)
    (h : wpList P ops Q rest (a.put o.dst (a.eval x)) w) : wpList P ops Q (o :: rest) a w := by
  refine wpList_plain hg fun K hK => ?_
  unfold Oper.wp execOp
  simp only [ho]
  exact hK _ _ h

theorem grown_refl (w : World) (row : Option Nat) : w.grownBy w row := ⟨rfl, rfl, rfl, Nat.le_refl _, fun _ _ _ => rfl⟩

/-- append of a slice of numbers, nil or not, to a slice of the call's own. -/
theorem wpList_appendI {P : Program} {w : World} {ops : Array Oper} {rest : List Oper} {o : Oper} {a : Act} {Q : Exit → Act → World → Prop} (hgd : o.guard = none) (s x : Operand) (t : TypeId)
    (ho : o.op = .call { callee := .builtin .append, args := #[s, x], argTypes := #[t, t] })
    (base : Nat) (e : TypeId) (i : TypeInfo) (z : Value) (bytes : Nat) (ht : P.underlying t = some (.slice e)) (hi : P.info? e = some i) (hz : i.zero = some z)
    (hsize : i.size = 1) (hby : i.bytes = bytes) (hzs : z.cells.size = 1)
    (v : Value) (n : Nat) (xs : List Value) (hs : a.eval s = v) (hown : w.ownsRow base e 1 v n xs) (vx : Value) (hx : a.eval x = vx) (k : IntKind) (l : List Int) (hv : RdI k w vx l)
    (h63 : n + l.length ≤ maxLen) (hbytes : (n + l.length) * bytes ≤ 140737488355328) (hbase : base ≤ w.heap.size)
    (h : ∀ v' w', w'.ownsRow base e 1 v' (n + l.length) (xs ++ l.map (Value.int k)) → w.grownBy w' v.ownBlock → (v ≠ .slice none 0 0 → v' ≠ .slice none 0 0) → wpList P ops Q rest (a.put o.dst v') w') : wpList P ops Q (o :: rest) a w := by
  obtain ⟨A0, m, cp, rfl, hm, -⟩ := hv.form
  cases A0 with
  | none =>
    obtain ⟨rfl, rfl, rfl⟩ := hv.nilcap
    exact wpList_append_own_none hgd s x t ho base e i 1 ht hi v n xs hs hown hx (h v w (by simpa using hown) (grown_refl _ _) id)
  | some ad =>
    subst hm
    exact wpList_append_own w hgd s x t ho base e i z 1 bytes ht hi hz hsize hby hzs (by decide) v n xs hs hown ad l.length cp (l.map (Value.int k)) hx (by simp) hv.news (nums_one k l) h63 hbytes hbase
      (fun v' w' h1 h2 h3 => h v' w' h1 h2 (fun hne e => hne (h3.1 e).1))

/-- The copy: a literal without elements, the slice, append. -/
theorem wpList_copyI {P : Program} {w : World} {ops : Array Oper} {rest : List Oper} {o1 o2 o3 : Oper} {a : Act} {Q : Exit → Act → World → Prop} (g1 : o1.guard = none) (g2 : o2.guard = none) (g3 : o3.guard = none) (t e : TypeId) (x : Operand) (d1 d2 : Tmp)
    (ho1 : o1.op = .buildSlice t 0 #[]) (ho2 : o2.op = .move x) (ho3 : o3.op = .call { callee := .builtin .append, args := #[.tmp d1, .tmp d2], argTypes := #[t, t] })
    (i : TypeInfo) (z : Value) (bytes : Nat) (ht : P.underlying t = some (.slice e)) (hi : P.info? e = some i) (hz : i.zero = some z) (hsize : i.size = 1) (hby : i.bytes = bytes) (hzs : z.cells.size = 1)
    (vx : Value) (hx : ∀ v0, (a.put o1.dst v0).eval x = vx) (e1 : ∀ v0, ((a.put o1.dst v0).put o2.dst vx).eval (.tmp d1) = v0) (e2 : ∀ v0, ((a.put o1.dst v0).put o2.dst vx).eval (.tmp d2) = vx)
    (k : IntKind) (l : List Int) (hv : RdI k w vx l) (h63 : l.length ≤ maxLen) (hbytes : l.length * bytes ≤ 140737488355328)
    (h : ∀ v0 v' w', w'.ownsRow w.heap.size e 1 v' l.length (l.map (Value.int k)) → Keeps w w' [] → v' ≠ .slice none 0 0 → wpList P ops Q rest (((a.put o1.dst v0).put o2.dst vx).put o3.dst v') w') : wpList P ops Q (o1 :: o2 :: o3 :: rest) a w := by
  refine wpList_build0 g1 t e ho1 i z 1 ht hi hz fun v0 hown hb hne => ?_
  refine wpList_move g2 x ho2 ?_
  rw [hx v0]
  refine wpList_appendI g3 _ _ t ho3 w.heap.size e i z bytes ht hi hz hsize hby hzs v0 0 [] (e1 v0) hown vx (e2 v0) k l (hv.keeps ((Keeps.refl w []).alloc _)) (by simpa using h63) (by simpa using hbytes) (by simp) ?_
  intro v' w' h1 h2 h3
  refine h v0 v' w' (by simpa using h1) ?_ (h3 hne)
  rw [hb] at h2
  exact ((Keeps.refl w []).alloc _).trans (Keeps.of_grown (S := [w.heap.size]) h2 (fun j hj => by cases hj; simp)) (fun j hj hlt => by have := List.mem_singleton.1 hj; omega)
end

section
set_option linter.unusedVariables false
set_option linter.unusedSimpArgs false
open Go.RowKit

theorem Tryz.loadBool (w : World) (a : Addr) (b : Bool) (h : w.cell? a = some (.bool b)) : (loadVar 4 a).run Tryz.prog w = .ok (.bool b) w := by
  go_simp

/-- A contract from a body that holds ranges over functions, the plain walk. -/
theorem calls_of_marks {P : Program} {f : FuncId} {fn : Func} {c : Code} {args : Array Value} {w : World} {R : Ending → World → Prop} (hf : P.funcs[f]? = some fn) (hb : fn.body = some c)
    (h : c.wp P (bodyPostM Fence.wide 9 P fn R) { tmps := args ++ Array.replicate (fn.ntmps - args.size) undef, defers := [] } w) : Calls P f args w R :=
  callsIn_wide.1 (callsIn_of_wp_marks hf hb trivial (wpIn_wide.2 h) rfl)

theorem res_cell {fn : Func} {p : Tmp} {T : TypeId} (h : fn.results = #[.cell p T]) {tmps : Array Value} {P : Program} {w : World} {a : Addr} {v : Value} (ht : tmps.getD p undef = .pointer (some a)) (hl : (loadVar T a).run P w = .ok v w) :
    (results fn tmps).run P w = .ok v w := by
  simp only [results, h]
  have ht' : tmps[p]?.getD undef = .pointer (some a) := by simpa using ht
  simp [Sem.run_bind, Result.andThen, ht', asAddr, hl]
end

end Go.Proofs.YtcmagccfagijlaaGreat
