/-
  Walks over package weights: head, halved.
  Slices of booleans in memory: what a slice value reads as; what keeps it; append. No program is in sight here.
  Walks over the reference of bit streams: Bits, Value, Row.
-/
import Derived.Test.YtcmagccfagijlaaGreatQ1
import Derived.Test.YtcmagccfagijlaaGreatQ4
import Derived.Test.YtcmagccfagijlaaGreatQ5
import Derived.Test.YtcmagccfagijlaaGreatQ2
import Derived.Test.YtcmagccfagijlaaGreatRows
namespace Go.Proofs.YtcmagccfagijlaaGreat
section
set_option linter.unusedVariables false
set_option linter.unusedSimpArgs false
set_option linter.unusedSectionVars false
open Go.RowKit

theorem one_news {w : World} {b : Nat} {v : Value} {T : TypeId} (h : Blk w b #[v] T) : ∀ (j : Nat) (u : Value), [v][j]? = some u → w.cell? (Addr.add ⟨b, 0, none⟩ j) = some u := fun j u hj => by
  cases j with
  | zero =>
    obtain rfl : v = u := by simpa using hj
    exact h.cell 0
  | succ j => simp at hj

theorem keeps_row {w0 w1 w2 : World} {v : Value} (h : Keeps w0 w1 []) (k : Keeps w1 w2 (match v.ownBlock with | some g => [g] | none => [])) (hge : ∀ g, v.ownBlock = some g → w0.heap.size ≤ g) : Keeps w0 w2 [] :=
  h.trans k (fun j hj hlt => by
    cases hv : v.ownBlock with
    | none => rw [hv] at hj; simp at hj
    | some g => rw [hv] at hj; simp at hj; have := hge g hv; omega)
end

section
set_option linter.unusedVariables false
set_option linter.unusedSimpArgs false
set_option linter.unusedSectionVars false
open Go.ChangeShapes Go.WideShapes Go.ChangeAt Go.RowKit

/-- A slice value reads as a list of booleans. -/
structure RdO (w : World) (v : Value) (l : List Bool) : Prop where
  form : ∃ a n cp, v = .slice a n cp ∧ n = l.length ∧ (a = none → n = 0 ∧ cp = 0) ∧ (0 < n → n ≤ cp ∧ ∃ b o, a = some ⟨b, o, none⟩ ∧ b < w.heap.size ∧ ∀ i x, l[i]? = some x → w.cell? ⟨b, o + i, none⟩ = some (.bool x))

section
variable {w w' : World} {v : Value} {l : List Bool} {a : Option Addr} {n cp : Nat}

theorem RdO.nil : RdO w (.slice none 0 0) [] := ⟨_, _, _, rfl, rfl, fun _ => ⟨rfl, rfl⟩, fun h => absurd h (by omega)⟩
theorem RdO.zero (a : Addr) (c : Nat) : RdO w (.slice (some a) 0 c) [] := ⟨_, _, _, rfl, rfl, (fun h => by cases h), fun h => absurd h (by omega)⟩
theorem RdO.keeps (h : RdO w v l) (kk : Keeps w w' []) : RdO w' v l := by
  obtain ⟨a, n, cp, rfl, hn, h0, hc⟩ := h.form
  refine ⟨a, n, cp, rfl, hn, h0, fun hp => ?_⟩
  obtain ⟨h1, b, o, h2, h3, h4⟩ := hc hp
  exact ⟨h1, b, o, h2, Nat.lt_of_lt_of_le h3 kk.size, fun i x hx => (kk.cell h3 (by simp)).trans (h4 i x hx)⟩
theorem RdO.keepsS {S : List Nat} (h : RdO w v l) (kk : Keeps w w' S) (hn : ∀ ad n cp, v = .slice (some ad) n cp → 0 < n → ad.block ∉ S) : RdO w' v l := by
  obtain ⟨a, n, cp, rfl, hl, h0, hc⟩ := h.form
  refine ⟨a, n, cp, rfl, hl, h0, fun hp => ?_⟩
  obtain ⟨h1, b, o, rfl, h3, h4⟩ := hc hp
  exact ⟨h1, b, o, rfl, Nat.lt_of_lt_of_le h3 kk.size, fun i x hx => (kk.cell (p := ⟨b, o + i, none⟩) h3 (fun hm => hn _ _ _ rfl hp hm)).trans (h4 i x hx)⟩
theorem RdO.len (h : RdO w (.slice a n cp) l) : n = l.length := by
  obtain ⟨a', n', cp', he, hl, -⟩ := h.form
  obtain ⟨h1, h2, h3⟩ := Value.slice.inj he
  rw [h2, hl]
theorem RdO.cap (h : RdO w (.slice a n cp) l) : n ≤ cp := by
  obtain ⟨a', n', cp', he, hl, h0, hc⟩ := h.form
  obtain ⟨h1, h2, h3⟩ := Value.slice.inj he
  subst h1 h2 h3
  by_cases hp : 0 < n
  · exact (hc hp).1
  · omega
theorem RdO.nilcap (h : RdO w (.slice none n cp) l) : n = 0 ∧ cp = 0 ∧ l = [] := by
  obtain ⟨a', n', cp', he, hl, h0, hc⟩ := h.form
  obtain ⟨h1, h2, h3⟩ := Value.slice.inj he
  subst h1 h2 h3
  obtain ⟨e1, e2⟩ := h0 rfl
  exact ⟨e1, e2, List.eq_nil_of_length_eq_zero (by omega)⟩
/-- The cell of element i. -/
theorem RdO.at (h : RdO w (.slice a n cp) l) {i : Nat} {x : Bool} (hx : l[i]? = some x) : ∃ b o, a = some ⟨b, o, none⟩ ∧ b < w.heap.size ∧ w.cell? ⟨b, o + i, none⟩ = some (.bool x) := by
  obtain ⟨a', n', cp', he, hl, h0, hc⟩ := h.form
  obtain ⟨h1, h2, h3⟩ := Value.slice.inj he
  subst h1 h2 h3
  have hlt := (List.getElem?_eq_some_iff.1 hx).1
  obtain ⟨_, b, o, h2, h3, h4⟩ := hc (by omega)
  exact ⟨b, o, h2, h3, h4 i x hx⟩
theorem RdO.addr (h : RdO w (.slice a n cp) l) (hp : 0 < n) : ∃ b o, a = some ⟨b, o, none⟩ ∧ b < w.heap.size ∧ ∀ i x, l[i]? = some x → w.cell? ⟨b, o + i, none⟩ = some (.bool x) := by
  obtain ⟨a', n', cp', he, hl, h0, hc⟩ := h.form
  obtain ⟨h1, h2, h3⟩ := Value.slice.inj he
  subst h1 h2 h3
  exact (hc hp).2
theorem RdO.drewN (h : RdO w v l) (m : Nat) : RdO (w.drewN m) v l := h.keeps ((Keeps.refl w []).drewN m)

/-- An owned row of booleans reads as their list. -/
theorem own_readsO {base : Nat} {e : TypeId} (h : w.ownsRow base e 1 v l.length (l.map (.bool))) : RdO w v l := by
  rcases h.2 with ⟨rfl, h0⟩ | ⟨g, cp, cur, rfl, hb, hg, hn, hm, hs, ht⟩
  · exact ⟨_, _, _, rfl, h0.symm, fun _ => ⟨rfl, rfl⟩, fun h => absurd h (by omega)⟩
  · refine ⟨_, _, _, rfl, rfl, (fun h => by cases h), fun h0 => ⟨hn, g, 0, rfl, (Array.getElem?_eq_some_iff.1 hg).1, fun i x hx => ?_⟩⟩
    have hlt := (List.getElem?_eq_some_iff.1 hx).1
    rw [Nat.zero_add, cell_of_row w g i cur e (0, 0) hg]
    have h1 : (cur.toList.take (l.length * 1))[i]? = (l.map (Value.bool))[i]? := by rw [ht]
    rw [List.getElem?_take, if_pos (by omega), List.getElem?_map, hx] at h1
    simpa using h1
/-- The cells of a slice of booleans, as append asks for them. -/
theorem RdO.news {ad : Addr} (h : RdO w (.slice (some ad) n cp) l) : ∀ j u, (l.map (Value.bool))[j]? = some u → w.cell? (ad.add j) = some u := by
  intro j u hj
  rw [List.getElem?_map] at hj
  obtain ⟨x, hx, rfl⟩ := Option.map_eq_some_iff.1 hj
  obtain ⟨b, o, h2, h3, h4⟩ := h.at hx
  cases h2
  have : (⟨b, o, none⟩ : Addr).add j = ⟨b, o + j, none⟩ := by simp [Addr.add]
  rw [this]
  exact h4
end

theorem bools_one (l : List Bool) : ∀ u ∈ l.map (Value.bool), u.oneCell' = true := by
  intro u hu
  obtain ⟨x, _, rfl⟩ := List.mem_map.1 hu
  simp [Value.oneCell']

/-- append of a slice of booleans, nil or not, to a slice of the call's own. -/
theorem wpList_appendO {P : Program} {w : World} {ops : Array Oper} {rest : List Oper} {o : Oper} {a : Act} {Q : Exit → Act → World → Prop} (hgd : o.guard = none) (s x : Operand) (t : TypeId)
    (ho : o.op = .call { callee := .builtin .append, args := #[s, x], argTypes := #[t, t] })
    (base : Nat) (e : TypeId) (i : TypeInfo) (z : Value) (bytes : Nat) (ht : P.underlying t = some (.slice e)) (hi : P.info? e = some i) (hz : i.zero = some z)
    (hsize : i.size = 1) (hby : i.bytes = bytes) (hzs : z.cells.size = 1)
    (v : Value) (n : Nat) (xs : List Value) (hs : a.eval s = v) (hown : w.ownsRow base e 1 v n xs) (vx : Value) (hx : a.eval x = vx) (l : List Bool) (hv : RdO w vx l)
    (h63 : n + l.length ≤ maxLen) (hbytes : (n + l.length) * bytes ≤ 140737488355328) (hbase : base ≤ w.heap.size)
    (h : ∀ v' w', w'.ownsRow base e 1 v' (n + l.length) (xs ++ l.map (Value.bool)) → w.grownBy w' v.ownBlock → (v ≠ .slice none 0 0 → v' ≠ .slice none 0 0) → wpList P ops Q rest (a.put o.dst v') w') : wpList P ops Q (o :: rest) a w := by
  obtain ⟨A0, m, cp, rfl, hm, -⟩ := hv.form
  cases A0 with
  | none =>
    obtain ⟨rfl, rfl, rfl⟩ := hv.nilcap
    exact wpList_append_own_none hgd s x t ho base e i 1 ht hi v n xs hs hown hx (h v w (by simpa using hown) (grown_refl _ _) id)
  | some ad =>
    subst hm
    exact wpList_append_own w hgd s x t ho base e i z 1 bytes ht hi hz hsize hby hzs (by decide) v n xs hs hown ad l.length cp (l.map (Value.bool)) hx (by simp) hv.news (bools_one l) h63 hbytes hbase
      (fun v' w' h1 h2 h3 => h v' w' h1 h2 (fun hne e => hne (h3.1 e).1))

/-- append of one boolean, just laid, to a slice of the call's own. -/
theorem wpList_app1O {P : Program} {w : World} {ops : Array Oper} {rest : List Oper} {o : Oper} {a : Act} {Q : Exit → Act → World → Prop} (hg : o.guard = none) (s x : Operand) (t : TypeId)
    (ho : o.op = .call { callee := .builtin .append, args := #[s, x], argTypes := #[t, t] })
    (base : Nat) (i : TypeInfo) (ht : P.underlying t = some (.slice 4)) (hi : P.info? 4 = some i) (hz : i.zero = some (.bool false)) (hsize : i.size = 1) (hby : i.bytes = 1)
    (v : Value) (n : Nat) (L : List Bool) (y : Bool) (B : Nat) (hs : a.eval s = v) (hx : a.eval x = .slice (some ⟨B, 0, none⟩) 1 1) (hB : w.heap.size = B)
    (hown : w.ownsRow base 4 1 v n (L.map .bool)) (h63 : n ≤ 10000000) (hbase : base ≤ w.heap.size)
    (h : ∀ a' c' w', w'.ownsRow base 4 1 (.slice a' (n + 1) c') (n + 1) ((L ++ [y]).map .bool) → Keeps w w' (match v.ownBlock with | some g => [g] | none => []) → wpList P ops Q rest (a.put o.dst (.slice a' (n + 1) c')) w') :
    wpList P ops Q (o :: rest) a (w.alloc (.cells #[.bool y] 4)) := by
  subst hB
  refine wpList_append_own _ hg s x t ho base _ i (.bool false) 1 1 ht hi hz hsize hby rfl (by decide) v n (L.map .bool) hs (own_keeps hown ((Keeps.refl w []).alloc _)) _ 1 1 [.bool y] hx rfl (one_news (Blk.new w _ _)) (by simp [Value.oneCell']) (by unfold maxLen; omega) (by omega) (by simp; omega) ?_
  intro v3 w3 h3 g3 _
  obtain ⟨a3, c3, rfl⟩ := own_form h3
  refine h a3 c3 w3 ?_ ?_
  · have : L.map (Value.bool) ++ [.bool y] = (L ++ [y]).map (Value.bool) := by simp
    rw [this] at h3
    exact h3
  · exact ((Keeps.refl w _).alloc _).trans (Keeps.of_grown g3 (fun k hk => by rw [hk]; simp)) (fun j hj _ => hj)

/-- A row of booleans in a block of its own. -/
def RowO (w : World) (base g n c : Nat) (L : List Bool) : Prop := L.length = n ∧ w.ownsRow base 4 1 (.slice (some ⟨g, 0, none⟩) n c) n (L.map .bool)
section
variable {w w' : World} {base g n c : Nat} {L : List Bool}
theorem RowO.at (h : RowO w base g n c L) {i : Nat} {x : Bool} (hx : L[i]? = some x) : w.cell? ⟨g, i, none⟩ = some (.bool x) := by
  have hlt := (List.getElem?_eq_some_iff.1 hx).1
  rw [h.2.cellAt i (by have := h.1; omega), List.getElem?_map, hx]; rfl
theorem RowO.frozen (h : RowO w base g n c L) (i : Nat) : w.frozen? ⟨g, i, none⟩ = false := h.2.frozenAt i
theorem RowO.cap (h : RowO w base g n c L) : n ≤ c := by
  rcases h.2.2 with ⟨h1, h2⟩ | ⟨g', cp, cur, h1, -, -, h4, -⟩
  · cases h1
  · cases h1; exact h4
theorem RowO.lt (h : RowO w base g n c L) : base ≤ g ∧ g < w.heap.size := h.2.lt g rfl
theorem RowO.set (h : RowO w base g n c L) (i : Nat) (x : Bool) : RowO (w.setCell ⟨g, i, none⟩ (.bool x)) base g n c (L.set i x) :=
  ⟨by rw [List.length_set]; exact h.1, by rw [List.map_set]; exact (h.2.stored i _).1⟩
theorem RowO.keeps {S : List Nat} (h : RowO w base g n c L) (k : Keeps w w' S) (hn : g ∉ S) : RowO w' base g n c L := by
  refine ⟨h.1, ?_⟩
  obtain ⟨h1, h2⟩ := h.2
  refine ⟨h1, ?_⟩
  rcases h2 with h2 | ⟨g', cp, cur, e, hg, hb, r⟩
  · exact .inl h2
  · cases e
    exact .inr ⟨g, c, cur, rfl, hg, (k.block g (Array.getElem?_eq_some_iff.1 hb).1 hn).trans hb, r⟩
end
theorem rowO_own {w : World} {base n c : Nat} {a : Option Addr} {L : List Bool} (hl : L.length = n) (h0 : 0 < n) (h : w.ownsRow base 4 1 (.slice a n c) n (L.map .bool)) : ∃ g, a = some ⟨g, 0, none⟩ ∧ RowO w base g n c L := by
  rcases h.2 with ⟨h1, h2⟩ | ⟨g, cp, cur, h1, h2⟩
  · omega
  · cases h1
    exact ⟨g, rfl, hl, h⟩
end

section
set_option linter.unusedVariables false
set_option linter.unusedSimpArgs false
set_option linter.unusedSectionVars false
open Go.RowKit

theorem Tryz.infoBool : (Tryz.prog.info? 4).map (fun i => (i.zero, i.size, i.bytes)) = some (some (.bool false), 1, 1) := by kernel_rfl
theorem bitsN_snoc : ∀ (k v : Nat), bitsN v (k + 1) = bitsN v k ++ [decide (v / 2 ^ k % 2 = 1)]
  | 0, v => by simp [bitsN]
  | k + 1, v => by
    have ih := bitsN_snoc k (v / 2)
    rw [show bitsN v (k + 1 + 1) = decide (v % 2 = 1) :: bitsN (v / 2) (k + 1) from rfl, ih, Nat.div_div_eq_div_mul, ← Nat.pow_succ', show bitsN v (k + 1) = decide (v % 2 = 1) :: bitsN (v / 2) k from rfl]
    rfl

set_option maxRecDepth 100000 in
set_option maxHeartbeats 2000000 in
theorem rbits_any (v : Nat) (w : World) (hv : v < 256) :
    Calls Tryz.prog 171 #[.int .u64 (v : Int), .int .i64 8] w fun e w' => ∃ a c, e = .returned (.slice a 8 c) ∧ w'.ownsRow w.heap.size 4 1 (.slice a 8 c) 8 ((bitsN v 8).map .bool) ∧ Keeps w w' [] := by
  obtain ⟨i0, hi, hz0, hz1, hz2⟩ := info_parts Tryz.infoBool
  go_enter Tryz.func171, Tryz.ntmps171
  go_wp2_with fail
  go_loopw [0, 5, 6] (fun s0 s5 s6 wr => ∃ (k q c : Nat) (a : Option Addr), k ≤ 8 ∧ Hid (q = v / 2 ^ k) ∧ q < 256 ∧ s0 = .int .u64 (q : Int) ∧ s5 = .slice a k c ∧ s6 = .int .i64 (k : Int) ∧ wr.ownsRow w.heap.size 4 1 (.slice a k c) k ((bitsN v k).map .bool) ∧ Keeps w wr [])
    (fun _ _ s6 _ => 8 - (intOf s6).toNat)
  case atStart => exact ⟨0, v, 0, none, by omega, Lib.hid (by simp), hv, rfl, rfl, rfl, World.ownsRow_nil _ _ _ _, Keeps.refl _ _⟩
  case round =>
    obtain ⟨k, q, c, a, hk, hq, hq8, rfl, rfl, rfl, own, kk⟩ := hrel
    have OW := Lib.hid own
    have hs := kk.size
    clear own
    by_cases h8 : k < 8
    · have hr1 : (k : Int) < 8 := by omega
      have h2 := bitsN_snoc k v
      rw [← hq.out] at h2
      obtain ⟨y, hy⟩ : ∃ y, decide (q % 2 = 1) = y := ⟨_, rfl⟩
      rw [hy] at h2
      have H2 := Lib.hid h2
      clear h2
      have hyv : ((q : Int) % 2 == 1) = y := by
        rw [← hy, Bool.eq_iff_iff, beq_iff_eq, decide_eq_true_iff]; omega
      have HYV := Lib.hid hyv
      have hq2 : q / 2 < 256 := by omega
      have hq3 : Hid (q / 2 = v / 2 ^ (k + 1)) := Lib.hid (by rw [hq.out, Nat.div_div_eq_div_mul, ← Nat.pow_succ])
      clear hy hyv
      go_wp2_with (at_builtin; go_loud (rw [HYV.out]; refine wpList_app1O (w := wr) rfl _ _ 176 rfl w.heap.size i0 Tryz.underlying176 hi hz0 hz1 hz2 (.slice a k c) k (bitsN v k) y _ rfl (by go_simp) rfl OW.out (by omega) (by omega) ?_; intro a3 c3 w3 own3 k3; rw [← H2.out] at own3))
      have OW3 := Lib.hid own3
      have kk3 : Keeps w w3 [] := kk.trans k3 (fun j hj hl => by
        cases a with
        | none => simp [Value.ownBlock] at hj
        | some ad => simp [Value.ownBlock] at hj; subst hj; have := (OW.out.lt _ rfl).1; omega)
      have hs3 := kk3.size
      clear own3 k3
      go_roundw
      case rel => exact ⟨k + 1, q / 2, c3, a3, by omega, hq3, hq2, by simp, rfl, by simp, OW3.out, kk3⟩
      case measure => simp only [intOf]; omega
    · obtain rfl : k = 8 := by omega
      go_wp2_with fail
      go_ret
      exact ⟨a, c, rfl, OW.out, kk⟩

theorem valL_drop {l : List Bool} {k : Nat} {b : Bool} (h : l[k]? = some b) : valL (l.drop k) = (if b then 1 else 0) + 2 * valL (l.drop (k + 1)) := by
  have hk := (List.getElem?_eq_some_iff.1 h).1
  rw [List.drop_eq_getElem_cons hk, (List.getElem?_eq_some_iff.1 h).2, valL]

set_option maxRecDepth 100000 in
set_option maxHeartbeats 2000000 in
theorem rvalue_any (l : List Bool) (w : World) (vs : Value) (h : RdO w vs l) (hl : l.length ≤ 60) :
    Calls Tryz.prog 140 #[vs] w fun e w' => e = .returned (.int .u64 (valL l : Int)) ∧ w' = w := by
  obtain ⟨A0, n, cp0, rfl, hn, -⟩ := h.form
  have HH := Lib.hid h
  have hcap := h.cap
  have HN := Lib.hid hn
  have hn60 : n ≤ 60 := by omega
  clear h hn
  go_enter Tryz.func140, Tryz.ntmps140
  go_wp2_with fail
  go_loopw [3, 4] (fun s3 s4 wr => wr = w ∧ ∃ (k : Nat) (V J : Int), k ≤ n ∧ Hid (V = valL (l.drop k)) ∧ 0 ≤ V ∧ V < 1152921504606846976 ∧ J = (k : Int) - 1 ∧ s3 = .int .u64 V ∧ s4 = .int .i64 J)
    (fun _ s4 _ => (intOf s4 + 1).toNat)
  case atStart => exact ⟨rfl, n, 0, (n : Int) - 1, by omega, Lib.hid (by rw [HN.out, List.drop_length]; rfl), by omega, by omega, rfl, rfl, rfl⟩
  case round =>
    obtain ⟨rfl, k, V, J, hk, hV, hV0, hV1, hJ, rfl, rfl⟩ := hrel
    by_cases h0 : 0 < k
    · obtain ⟨b, hb⟩ : ∃ b, l[k - 1]? = some b := ⟨_, List.getElem?_eq_getElem (by have := HN.out; omega)⟩
      obtain ⟨blk, o, rfl, hbb, hc⟩ := HH.out.at hb
      have hv1 := valL_drop hb
      rw [show k - 1 + 1 = k by omega] at hv1
      have hlt := valL_lt (l.drop (k - 1))
      have hlt2 : 2 ^ (l.drop (k - 1)).length ≤ 2 ^ 60 := Nat.pow_le_pow_right (by omega) (by rw [List.length_drop]; omega)
      have hj1 : (0 : Int) ≤ J := by omega
      have hj2 : J < (n : Int) := by omega
      have hj3 : J.toNat = k - 1 := by omega
      have hgeq : decide ((0 : Int) ≤ J) = true := decide_eq_true hj1
      have e2 : IntKind.u64.wrap (2 * V) = 2 * V := by simp [IntKind.wrap, IntKind.signed, IntKind.bits]; omega
      have e3 : IntKind.u64.wrap (2 * V + 1) = 2 * V + 1 := by simp [IntKind.wrap, IntKind.signed, IntKind.bits]; omega
      have hVE := hV.out
      cases b with
      | true =>
        have hV' : Hid (2 * V + 1 = valL (l.drop (k - 1))) := Lib.hid (by rw [hv1]; simp only [if_true]; omega)
        have hV2 : 2 * V + 1 < 1152921504606846976 := by have := hV'.out; omega
        clear hv1 hlt hlt2 hb hVE
        go_wp2_with fail
        go_roundw
        case rel => exact ⟨trivial, k - 1, 2 * V + 1, J - 1, by omega, hV', by omega, hV2, by omega, by simp, by simp; try omega⟩
        case measure => simp only [intOf]; omega
      | false =>
        have hV' : Hid (2 * V = valL (l.drop (k - 1))) := Lib.hid (by rw [hv1]; simp; omega)
        have hV2 : 2 * V < 1152921504606846976 := by have := hV'.out; omega
        clear hv1 hlt hlt2 hb hVE
        go_wp2_with fail
        go_roundw
        case rel => exact ⟨trivial, k - 1, 2 * V, J - 1, by omega, hV', by omega, hV2, by omega, by simp, by simp; try omega⟩
        case measure => simp only [intOf]; omega
    · obtain rfl : k = 0 := by omega
      have hg1 : decide ((0 : Int) ≤ J) = false := decide_eq_false (by omega)
      have hg2 : ¬ (0 : Int) ≤ J := by omega
      obtain rfl : V = (valL l : Int) := by have := hV.out; simpa using this
      clear hV
      go_wp2_with fail
      go_ret
      exact ⟨rfl, rfl⟩

set_option maxRecDepth 100000 in
set_option maxHeartbeats 2000000 in
theorem rrow_any (B : List Int) (w : World) (vs : Value) (h : RdI .u8 w vs B) (hl : B.length ≤ 100000) (hB : ∀ x ∈ B, 0 ≤ x ∧ x ≤ 255) :
    Calls Tryz.prog 139 #[vs] w fun e w' => ∃ a c, e = .returned (.slice a (8 * B.length) c) ∧ w'.ownsRow w.heap.size 4 1 (.slice a (8 * B.length) c) (8 * B.length) ((rowBits B).map .bool) ∧ Keeps w w' [] := by
  obtain ⟨i0, hi, hz0, hz1, hz2⟩ := info_parts Tryz.infoBool
  obtain ⟨A0, n, cp0, rfl, hn, -⟩ := h.form
  have HH := Lib.hid h
  have hcap := h.cap
  have HB := Lib.hid hB
  have HN := Lib.hid hn
  have hn6 : n ≤ 100000 := by omega
  clear h hB hn
  go_enter Tryz.func139, Tryz.ntmps139
  go_wp2_with fail
  go_loopw [3, 4] (fun s3 s4 wr => ∃ (k c : Nat) (a : Option Addr), k ≤ n ∧ s3 = .slice a (8 * k) c ∧ s4 = .int .i64 (k : Int) ∧ wr.ownsRow w.heap.size 4 1 (.slice a (8 * k) c) (8 * k) ((rowBits (B.take k)).map .bool) ∧ Keeps w wr [])
    (fun _ s4 _ => n - (intOf s4).toNat)
  case atStart => exact ⟨0, 0, none, by omega, rfl, rfl, World.ownsRow_nil _ _ _ _, Keeps.refl _ _⟩
  case round =>
    obtain ⟨k, c, a, hk, rfl, rfl, own, kk⟩ := hrel
    have OW := Lib.hid own
    have hs := kk.size
    clear own
    by_cases h8 : k < n
    · have hr1 : (k : Int) < (n : Int) := by omega
      obtain ⟨x, hx⟩ : ∃ x, B[k]? = some x := ⟨_, List.getElem?_eq_getElem (by have := HN.out; omega)⟩
      obtain ⟨hxa, hxb⟩ := HB.out x (List.mem_of_getElem? hx)
      obtain ⟨xn, rfl⟩ := Int.eq_ofNat_of_zero_le hxa
      obtain ⟨bb, o, rfl, hbb, hc⟩ := (HH.out.keeps kk).at hx
      have htk : B.take (k + 1) = B.take k ++ [(xn : Int)] := by rw [List.take_add_one, hx]; rfl
      have HTK : Hid (rowBits (B.take (k + 1)) = rowBits (B.take k) ++ bitsN xn 8) := Lib.hid (by rw [htk, rowBits_append]; simp [rowBits])
      have HC := Lib.hid (rbits_any xn wr (by omega))
      clear htk hx
      go_wp2_with (first
        | (go_at_call 171; go_loud (refine HC.out.mono ?_; rintro e w2 ⟨a2, c2, rfl, own2, k2⟩; have HR2 := Lib.hid (own_readsO (l := bitsN xn 8) (by rw [bitsN_len]; exact own2)); clear own2))
        | (at_builtin; go_loud (refine wpList_appendO rfl _ _ 176 rfl w.heap.size 4 i0 (.bool false) 1 Tryz.underlying176 hi hz0 hz1 hz2 rfl (.slice a (8 * k) c) (8 * k) _ rfl (own_keeps OW.out k2) _ rfl _ HR2.out (by rw [bitsN_len]; unfold maxLen; have := HN.out; omega) (by rw [bitsN_len]; have := HN.out; omega) (by have := k2.size; omega) ?_; intro v3 w3 own3 g3 _; rw [bitsN_len, show 8 * k + 8 = 8 * (k + 1) by omega, ← List.map_append, ← HTK.out] at own3; obtain ⟨a3, c3, rfl⟩ := own_form own3)))
      have OW3 := Lib.hid own3
      have kk3 : Keeps w w3 [] := (kk.trans k2 (fun j hj hl => absurd hj (by simp))).trans (Keeps.of_grown (S := match a with | some ad => [ad.block] | none => []) g3 (fun x hx => by cases a <;> simp [Value.ownBlock] at hx ⊢; exact hx.symm)) (fun j hj hl => by
        cases a with
        | none => simp at hj
        | some ad => simp at hj; subst hj; have := (OW.out.lt _ rfl).1; omega)
      have hs3 := kk3.size
      clear own3 g3
      go_roundw
      case rel => exact ⟨k + 1, c3, a3, by omega, rfl, by simp, OW3.out, kk3⟩
      case measure => simp only [intOf]; omega
    · obtain rfl : k = n := by omega
      have HL : B.length = k := HN.out.symm
      go_wp2_with fail
      go_ret
      refine ⟨a, c, by rw [HL]; rfl, ?_, kk⟩
      have := OW.out
      rw [List.take_of_length_le (by omega)] at this
      rw [HL]
      exact this
end

end Go.Proofs.YtcmagccfagijlaaGreat
