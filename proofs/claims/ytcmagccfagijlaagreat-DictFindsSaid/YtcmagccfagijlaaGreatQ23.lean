/-
  Two numbers to a byte; rows of bytes that are changed in place. No program is in sight here but for the type of a byte.
  Walks over package weights: head, halved.
  Walks over the reference of package dict: sameInts, whether equal or not.
  Walks over the reference of package dict: the tables' Same, whether equal or not.
-/
import Derived.Test.YtcmagccfagijlaaGreatQ5
import Derived.Laws.OwnMore
import Derived.Test.YtcmagccfagijlaaGreatRows
import Derived.Test.YtcmagccfagijlaaGreatQ6
import Derived.Test.YtcmagccfagijlaaGreatQ9
import Derived.Test.YtcmagccfagijlaaGreatQ17
namespace Go.Proofs.YtcmagccfagijlaaGreat
section
set_option linter.unusedVariables false
set_option linter.unusedSimpArgs false
open Go.RowKit

def nibF : List Int → List Int
  | [] => []
  | [a] => [a]
  | a :: b :: l => (a + 16 * b) :: nibF l
theorem nib_even (l : List Int) : ∀ x : Int, l.length % 2 = 0 → nibF (l ++ [x]) = nibF l ++ [x] := by
  induction l using nibF.induct with
  | case1 => intro x _; rfl
  | case2 a => intro x h; simp at h
  | case3 a b l ih =>
    intro x h
    simp only [List.cons_append, nibF, ih x (by simp only [List.length_cons] at h; omega)]
theorem nib_two (l : List Int) : ∀ x y : Int, l.length % 2 = 0 → nibF (l ++ [x, y]) = nibF l ++ [x + 16 * y] := by
  induction l using nibF.induct with
  | case1 => intro x y _; rfl
  | case2 a => intro x y h; simp at h
  | case3 a b l ih =>
    intro x y h
    simp only [List.cons_append, nibF, ih x y (by simp only [List.length_cons] at h; omega)]
theorem nib_len (l : List Int) : (nibF l).length = (l.length + 1) / 2 := by
  induction l using nibF.induct with
  | case1 => rfl
  | case2 a => simp [nibF]
  | case3 a b l ih => simp only [nibF, List.length_cons, ih]; omega
theorem nib_take1 {l : List Int} {k : Nat} {x : Int} (h : l[k]? = some x) (hk : k % 2 = 0) : nibF (l.take (k + 1)) = nibF (l.take k) ++ [x] := by
  have hlt := (List.getElem?_eq_some_iff.1 h).1
  rw [take_next h]
  exact nib_even _ _ (by simp; omega)
theorem nib_take2 {l : List Int} {k : Nat} {x y : Int} (h : l[k]? = some x) (h' : l[k + 1]? = some y) (hk : k % 2 = 0) : nibF (l.take (k + 2)) = nibF (l.take k) ++ [x + 16 * y] := by
  have hlt := (List.getElem?_eq_some_iff.1 h).1
  rw [take_next h', take_next h, List.append_assoc]
  exact nib_two _ _ _ (by simp; omega)
theorem nib_set {l : List Int} {k : Nat} {x y : Int} (hd : List Int) (h : l[k]? = some x) (h' : l[k + 1]? = some y) (hk : k % 2 = 0) :
    (hd ++ nibF (l.take (k + 1)))[(hd ++ nibF (l.take (k + 1))).length - 1]? = some x ∧ (hd ++ nibF (l.take (k + 1))).set ((hd ++ nibF (l.take (k + 1))).length - 1) (x + 16 * y) = hd ++ nibF (l.take (k + 2)) := by
  rw [nib_take1 h hk, nib_take2 h h' hk, ← List.append_assoc, ← List.append_assoc]
  generalize hd ++ nibF (l.take k) = A
  have e : (A ++ [x]).length - 1 = A.length := by simp
  rw [e]
  constructor
  · simp
  · rw [List.set_append_right _ _ (Nat.le_refl _), Nat.sub_self]; rfl
/-- A description in format 0. -/
def halvesL (w : List Int) : List Int := varI w.length ++ [0] ++ nibF w
theorem nib_byte {l : List Int} (h : ∀ x ∈ l, 0 ≤ x ∧ x ≤ 15) : ∀ x ∈ nibF l, 0 ≤ x ∧ x ≤ 255 := by
  induction l using nibF.induct with
  | case1 => intro x hx; cases hx
  | case2 a => intro x hx; have := h a (by simp); simp [nibF] at hx; omega
  | case3 a b l ih =>
    intro x hx
    have h1 := h a (by simp)
    have h2 := h b (by simp)
    rcases List.mem_cons.1 hx with rfl | hx
    · omega
    · exact ih (fun y hy => h y (by simp [hy])) x hx
theorem halves_byte {l : List Int} (h : ∀ x ∈ l, 0 ≤ x ∧ x ≤ 15) : ∀ x ∈ halvesL l, 0 ≤ x ∧ x ≤ 255 := by
  intro x hx
  rcases List.mem_append.1 hx with hx | hx
  · rcases List.mem_append.1 hx with hx | hx
    · exact varI_byte hx
    · have := List.mem_singleton.1 hx; omega
  · exact nib_byte h x hx
theorem halves_len (l : List Int) : (halvesL l).length = (varI l.length).length + 1 + (l.length + 1) / 2 := by simp [halvesL, nib_len]; omega

/-- The two halves of a byte are laid together. -/
theorem or_nib_all : ∀ a : Fin 16, ∀ b : Fin 16, bits BinOp.or IntKind.u8 ((a.val : Nat) : Int) ((b.val * 16 : Nat) : Int) = ((a.val + 16 * b.val : Nat) : Int) := by decide +kernel
theorem or_nib {x y : Int} (h1 : 0 ≤ x) (h2 : x ≤ 15) (h3 : 0 ≤ y) (h4 : y ≤ 15) : bits BinOp.or IntKind.u8 x (y * 16) = x + 16 * y := by
  obtain ⟨a, rfl⟩ := Int.eq_ofNat_of_zero_le h1
  obtain ⟨b, rfl⟩ := Int.eq_ofNat_of_zero_le h3
  have h := or_nib_all ⟨a, by omega⟩ ⟨b, by omega⟩
  simp only [Int.natCast_mul, Int.natCast_add] at h
  exact h

/-- A row of bytes in a block of its own. -/
def RowB (w : World) (base g n c : Nat) (L : List Int) : Prop := L.length = n ∧ w.ownsRow base 5 1 (.slice (some ⟨g, 0, none⟩) n c) n (L.map (.int .u8))
section
variable {w w' : World} {base g n c : Nat} {L : List Int}
theorem RowB.at (h : RowB w base g n c L) {i : Nat} {x : Int} (hx : L[i]? = some x) : w.cell? ⟨g, i, none⟩ = some (.int .u8 x) := by
  have hlt := (List.getElem?_eq_some_iff.1 hx).1
  rw [h.2.cellAt i (by have := h.1; omega), List.getElem?_map, hx]; rfl
theorem RowB.frozen (h : RowB w base g n c L) (i : Nat) : w.frozen? ⟨g, i, none⟩ = false := h.2.frozenAt i
theorem RowB.cap (h : RowB w base g n c L) : n ≤ c := by
  rcases h.2.2 with ⟨h1, h2⟩ | ⟨g', cp, cur, h1, -, -, h4, -⟩
  · cases h1
  · cases h1; exact h4
theorem RowB.lt (h : RowB w base g n c L) : base ≤ g ∧ g < w.heap.size := h.2.lt g rfl
theorem RowB.set (h : RowB w base g n c L) (i : Nat) (x : Int) : RowB (w.setCell ⟨g, i, none⟩ (.int .u8 x)) base g n c (L.set i x) :=
  ⟨by rw [List.length_set]; exact h.1, by rw [List.map_set]; exact (h.2.stored i _).1⟩
theorem RowB.keeps {S : List Nat} (h : RowB w base g n c L) (k : Keeps w w' S) (hn : g ∉ S) : RowB w' base g n c L := by
  refine ⟨h.1, ?_⟩
  obtain ⟨h1, h2⟩ := h.2
  refine ⟨h1, ?_⟩
  rcases h2 with h2 | ⟨g', cp, cur, e, hg, hb, r⟩
  · exact .inl h2
  · cases e
    exact .inr ⟨g, c, cur, rfl, hg, (k.block g (Array.getElem?_eq_some_iff.1 hb).1 hn).trans hb, r⟩
end
theorem rowB_own {w : World} {base n c : Nat} {a : Option Addr} {L : List Int} (hl : L.length = n) (h0 : 0 < n) (h : w.ownsRow base 5 1 (.slice a n c) n (L.map (.int .u8))) : ∃ g, a = some ⟨g, 0, none⟩ ∧ RowB w base g n c L := by
  rcases h.2 with ⟨h1, h2⟩ | ⟨g, cp, cur, h1, h2⟩
  · omega
  · cases h1
    exact ⟨g, rfl, hl, h⟩
end

section
set_option linter.unusedVariables false
set_option linter.unusedSimpArgs false
set_option linter.unusedSectionVars false
open Go.RowKit

theorem one_news {w : World} {b : Nat} {v : Value} {T : TypeId} (h : Blk w b #[v] T) : ∀ (j : Nat) (u : Value), [v][j]? = some u → w.cell? (Addr.add ⟨b, 0, none⟩ j) = some u := fun j u hj => by
  cases j with
  | zero =>
    obtain rfl : v = u := by simpa using hj
    exact h.cell 0
  | succ j => simp at hj

theorem keeps_row {w0 w1 w2 : World} {v : Value} (h : Keeps w0 w1 []) (k : Keeps w1 w2 (match v.ownBlock with | some g => [g] | none => [])) (hge : ∀ g, v.ownBlock = some g → w0.heap.size ≤ g) : Keeps w0 w2 [] :=
  h.trans k (fun j hj hlt => by
    cases hv : v.ownBlock with
    | none => rw [hv] at hj; simp at hj
    | some g => rw [hv] at hj; simp at hj; have := hge g hv; omega)

/-- append of one byte, just laid, to a slice of the call's own. -/
theorem wpList_app1 {P : Program} {w : World} {ops : Array Oper} {rest : List Oper} {o : Oper} {a : Act} {Q : Exit → Act → World → Prop} (hg : o.guard = none) (s x : Operand) (t : TypeId)
    (ho : o.op = .call { callee := .builtin .append, args := #[s, x], argTypes := #[t, t] })
    (base : Nat) (i : TypeInfo) (ht : P.underlying t = some (.slice 5)) (hi : P.info? 5 = some i) (hz : i.zero = some (.int .u8 0)) (hsize : i.size = 1) (hby : i.bytes = 1)
    (v : Value) (n : Nat) (L : List Int) (y : Int) (B : Nat) (hs : a.eval s = v) (hx : a.eval x = .slice (some ⟨B, 0, none⟩) 1 1) (hB : w.heap.size = B)
    (hown : w.ownsRow base 5 1 v n (L.map (.int .u8))) (h63 : n ≤ 10000000) (hbase : base ≤ w.heap.size)
    (h : ∀ a' c' w', w'.ownsRow base 5 1 (.slice a' (n + 1) c') (n + 1) ((L ++ [y]).map (.int .u8)) → Keeps w w' (match v.ownBlock with | some g => [g] | none => []) → wpList P ops Q rest (a.put o.dst (.slice a' (n + 1) c')) w') :
    wpList P ops Q (o :: rest) a (w.alloc (.cells #[.int .u8 y] 5)) := by
  subst hB
  refine wpList_append_own _ hg s x t ho base _ i (.int .u8 0) 1 1 ht hi hz hsize hby rfl (by decide) v n (L.map (.int .u8)) hs (own_keeps hown ((Keeps.refl w []).alloc _)) _ 1 1 [.int .u8 y] hx rfl (one_news (Blk.new w _ _)) (by simp [Value.oneCell']) (by unfold maxLen; omega) (by omega) (by simp; omega) ?_
  intro v3 w3 h3 g3 _
  obtain ⟨a3, c3, rfl⟩ := own_form h3
  refine h a3 c3 w3 ?_ ?_
  · have : L.map (Value.int .u8) ++ [.int .u8 y] = (L ++ [y]).map (Value.int .u8) := by simp
    rw [this] at h3
    exact h3
  · exact ((Keeps.refl w _).alloc _).trans (Keeps.of_grown g3 (fun k hk => by rw [hk]; simp)) (fun j hj _ => hj)

set_option maxRecDepth 100000 in
set_option maxHeartbeats 2000000 in
theorem whead_any (v : Value) (l : List Int) (way : Int) (w : World) (hv : RdI .i64 w v l) (hl : l.length ≤ 1000000) (h0 : 0 ≤ way) (h1 : way ≤ 255) :
    Calls Tryz.prog 175 #[v, .int .u8 way] w fun e w' => ∃ v', e = .returned v' ∧ OwnB w' w.heap.size v' (varI l.length ++ [way]) ∧ Keeps w w' [] := by
  obtain ⟨i0, hi, hz0, hz1, hz2⟩ := info_parts Tryz.infoByte
  obtain ⟨ad, n, c, rfl, rfl, -⟩ := hv.form
  clear hv
  have HP := Lib.hid (putVarint_any (.slice none 0 0) [] l.length w .nil (by simp) (by omega))
  have HPE : Hid (∀ e w', PutEnd w [] l.length e w' → ∃ v, e = .returned (.tuple #[v, .int .i64 0]) ∧ OwnB w' w.heap.size v (varI l.length) ∧ Keeps w w' []) := fun e w' h => by
    unfold PutEnd at h
    rw [if_neg (by omega)] at h
    simpa using h
  have hlen := varI_len 9 l.length (by omega)
  have hm : (l.length : Int) % 18446744073709551616 = l.length := by omega
  generalize l.length = N at *
  generalize varI N = L at *
  go_enter Tryz.func175, Tryz.ntmps175
  go_wp2_with (go_at_call 67; refine HP.out.mono ?_; intro e w1 he; obtain ⟨v1, rfl, own1, k1⟩ := HPE.out e w1 he; obtain ⟨a1, c1, rfl⟩ := own_form own1)
  refine (wmust_yes _ _ (Blk.newA rfl)).mono ?_
  rintro e w5 ⟨rfl, rfl⟩
  have ow := own_keeps own1 ((Keeps.refl w1 []).alloc (.cells #[.int .i64 0] 33))
  have k5 := k1.alloc (.cells #[.int .i64 0] 33)
  have hs5 := k5.size
  have hfin : (L ++ [way]).length = L.length + 1 := by simp
  clear own1 he
  generalize L.length = N1 at *
  have OW := Lib.hid ow
  have HF := Lib.hid hfin
  clear ow hfin
  go_wp2_with (at_builtin; go_loud (refine wpList_app1 (w := w1.alloc (.cells #[.int .i64 0] 33)) rfl _ _ 22 rfl w.heap.size i0 Tryz.underlying22 hi hz0 hz1 hz2 (.slice a1 N1 c1) N1 L way _ rfl rfl (by simp) OW.out (by omega) hs5 ?_; intro a3 c3 w3 own3 k3))
  go_ret
  exact ⟨_, rfl, by unfold OwnB; rw [HF.out]; exact own3, keeps_row k5 k3 (fun g hg => (OW.out.lt g hg).1)⟩

set_option maxRecDepth 100000 in
set_option maxHeartbeats 4000000 in
theorem halved_any (v : Value) (l : List Int) (w : World) (hv : RdI .i64 w v l) (hl : l.length ≤ 1000000) (hx : ∀ x ∈ l, 0 ≤ x ∧ x ≤ 11) :
    Calls Tryz.prog 144 #[v] w fun e w' => ∃ v', e = .returned v' ∧ OwnB w' w.heap.size v' (halvesL l) ∧ Keeps w w' [] := by
  obtain ⟨i0, hi, hz0, hz1, hz2⟩ := info_parts Tryz.infoByte
  have HV := Lib.hid hv
  have HX := Lib.hid hx
  have HH := Lib.hid (whead_any v l 0 w hv hl (by omega) (by omega))
  obtain ⟨ad, n, c, rfl, hn, -⟩ := hv.form
  have HE : Hid (halvesL l = (varI l.length ++ [0]) ++ nibF (l.take n)) := by show _ = _; rw [hn, List.take_length]; rfl
  have hlen := varI_len 9 l.length (by omega)
  have hvp := varI_pos l.length
  have hhl : (varI l.length ++ [0]).length ≤ 11 ∧ 0 < (varI l.length ++ [0]).length := by simp; omega
  generalize varI l.length ++ [0] = hd at *
  have HN := Lib.hid hn
  rw [← hn] at hl
  clear hv hx hn hlen hvp
  go_enter Tryz.func144, Tryz.ntmps144
  go_wp2_with (refine HH.out.mono ?_; rintro e w1 ⟨v1, rfl, own1, k1⟩; obtain ⟨a1, c1, rfl⟩ := own_form own1)
  obtain ⟨g1, rfl, row1⟩ := rowB_own rfl hhl.2 own1
  clear own1 HH
  obtain ⟨N1, hN1⟩ : ∃ N, N = hd.length := ⟨_, rfl⟩
  rw [← hN1] at row1 hhl ⊢
  have HN1 := Lib.hid hN1
  clear hN1
  go_loopw [3, 10] (fun v i wr => ∃ (k g N c : Nat), k ≤ n ∧ i = .int .i64 k ∧ v = .slice (some ⟨g, 0, none⟩) N c ∧ N ≤ 20 + k ∧ 0 < N ∧ RowB wr w.heap.size g N c (hd ++ nibF (l.take k)) ∧ Keeps w wr []) (fun _ i _ => n - (intOf i).toNat)
  case atStart => exact ⟨0, g1, N1, c1, Nat.zero_le _, rfl, rfl, by omega, by omega, by simpa [nibF] using row1, k1⟩
  case round =>
    clear row1 k1
    obtain ⟨k, g, N, c2, hk, rfl, rfl, hN, hN0, row, kk⟩ := hrel
    by_cases hlt : k < n
    · obtain ⟨x, hx⟩ : ∃ x, l[k]? = some x := ⟨_, List.getElem?_eq_getElem (by have := HN.out; omega)⟩
      obtain ⟨b, o, rfl, hb, hc⟩ := HV.out.at hx
      have hc' := (kk.cell (p := ⟨b, o + k, none⟩) hb (by simp)).trans hc
      have hcap := HV.out.cap
      have hxb := HX.out x (List.mem_of_getElem? hx)
      have hkn : (k : Int) < (n : Int) := by omega
      have hm : x % 256 = x := by omega
      have hs := kk.size
      have ROW := Lib.hid row
      by_cases hev : k % 2 = 0
      · have hev' : ((k : Int) % 2 == 0) = true := by simp; omega
        have HT := Lib.hid (nib_take1 hx hev)
        clear hx hc row
        go_wp2_with (at_builtin; go_loud (refine wpList_app1 (w := wr) rfl _ _ 22 rfl w.heap.size i0 Tryz.underlying22 hi hz0 hz1 hz2 (.slice (some ⟨g, 0, none⟩) N c2) N (hd ++ nibF (l.take k)) x _ rfl rfl rfl ROW.out.2 (by omega) hs ?_; intro a3 c3 w3 own3 k3; obtain ⟨g3, rfl, row3⟩ := rowB_own (L := hd ++ nibF (l.take k) ++ [x]) (by have := ROW.out.1; simp only [List.length_append, List.length_singleton] at this ⊢; omega) (Nat.succ_pos _) own3))
        have kk3 := keeps_row kk k3 (fun g' hg => (ROW.out.2.lt g' hg).1)
        rw [List.append_assoc, ← HT.out] at row3
        clear own3 k3
        go_roundw
        case rel => exact ⟨k + 1, g3, N + 1, c3, by omega, by go_num, rfl, by omega, by omega, row3, kk3⟩
        case measure => simp [intOf]; omega
      · obtain ⟨k', rfl⟩ : ∃ k', k = k' + 1 := ⟨k - 1, by omega⟩
        obtain ⟨N', rfl⟩ : ∃ N', N = N' + 1 := ⟨N - 1, by omega⟩
        have hev' : (((k' + 1 : Nat) : Int) % 2 == 0) = false := by simp; omega
        obtain ⟨y, hy⟩ : ∃ y, l[k']? = some y := ⟨_, List.getElem?_eq_getElem (by have := HN.out; omega)⟩
        have hyb := HX.out y (List.mem_of_getElem? hy)
        obtain ⟨q1, q2⟩ := nib_set hd hy hx (by omega)
        have hNl := row.1
        rw [hNl, Nat.add_sub_cancel] at q1 q2
        have cy := row.at q1
        have fy := row.frozen N'
        have hcg := row.cap
        have hgl := row.lt
        have hor := or_nib hyb.1 (by omega) hxb.1 (by omega : x ≤ 15)
        have hw : wrap64 (x * 16) = x * 16 := IntWalk.wrap64_in _ ⟨by omega, by omega⟩
        have hm2 : x * 16 % 256 = x * 16 := by omega
        have row3 := Lib.hid (row.set N' (y + 16 * x))
        rw [q2] at row3
        have kk3 := Lib.hid (kk.setCell (a := ⟨g, N', none⟩) (.inl hgl.1) (.int .u8 (y + 16 * x)))
        clear hx hc row hy q1 q2 hNl
        go_wp2_with fail
        go_roundw
        case rel => exact ⟨k' + 1 + 1, g, N' + 1, c2, by omega, by go_num, rfl, by omega, by omega, row3.out, kk3.out⟩
        case measure => simp [intOf]; omega
    · obtain rfl : k = n := by omega
      rw [← HE.out] at row
      have ROW := Lib.hid row
      have HNN := Lib.hid row.1
      clear row
      go_wp2_with fail
      go_ret
      exact ⟨_, rfl, by unfold OwnB; rw [HNN.out]; exact ROW.out.2, kk⟩
end

section
set_option linter.unusedVariables false
set_option linter.unusedSimpArgs false
set_option linter.unusedSectionVars false
open Go.RowKit

theorem take_eq_next {a b : List Int} {k : Nat} {x y : Int} (hx : a[k]? = some x) (hy : b[k]? = some y) (h : a.take k = b.take k) (hxy : x = y) : a.take (k + 1) = b.take (k + 1) := by
  rw [take_next hx, take_next hy, h, hxy]

set_option maxHeartbeats 1000000 in
theorem sameInts_any (v1 v2 : Value) (a b : List Int) (w : World) (h1 : RdI .i64 w v1 a) (h2 : RdI .i64 w v2 b) (hn : a.length ≤ 1000000) (hnb : b.length ≤ 1000000) :
    Calls Tryz.prog 34 #[v1, v2] w fun e w' => e = .returned (.bool (decide (a = b))) ∧ ∃ m, w' = w.drewN m := by
  obtain ⟨A1, n, c1, rfl, hn1, -⟩ := h1.form
  obtain ⟨A2, n2, c2, rfl, hn2, -⟩ := h2.form
  have H1 := Lib.hid h1
  have H2 := Lib.hid h2
  have HN := Lib.hid hn1
  have HN2 := Lib.hid hn2
  by_cases hne : n = n2
  · subst hne
    have hn' : n ≤ 1000000 := by omega
    have hnn : ((n : Int) != (n : Int)) = false := by simp
    have HR : Hid (∀ r : Bool, (r = true ↔ a = b) → decide (a = b) = r) := fun r h => by cases r <;> simp_all
    generalize decide (a = b) = R at *
    clear h1 h2 hn1 hn2 hn hnb
    go_enter Tryz.func34, Tryz.ntmps34
    go_wp2_with fail
    go_loopw [5] (fun i wr => ∃ k nd : Nat, k ≤ n ∧ i = .int .i64 k ∧ wr = w.drewN nd ∧ Hid (a.take k = b.take k)) (fun i _ => n - (intOf i).toNat)
    case atStart => exact ⟨0, 0, Nat.zero_le _, rfl, rfl, rfl⟩
    case round =>
      obtain ⟨k, nd, hk, rfl, rfl, ht⟩ := hrel
      by_cases hlt : k < n
      · obtain ⟨x, hx⟩ : ∃ x, a[k]? = some x := ⟨_, List.getElem?_eq_getElem (by have := HN.out; omega)⟩
        obtain ⟨y, hy⟩ : ∃ y, b[k]? = some y := ⟨_, List.getElem?_eq_getElem (by have := HN2.out; omega)⟩
        obtain ⟨bb, o, rfl, hb, hc⟩ := H1.out.at hx
        obtain ⟨b2, o2, rfl, hb2, hc2⟩ := H2.out.at hy
        have hcap := H1.out.cap
        have hcap2 := H2.out.cap
        have hkn : (k : Int) < (n : Int) := by omega
        have hk0 : (0 : Int) ≤ (k : Int) := Int.natCast_nonneg _
        by_cases hxy : x = y
        · have NT := Lib.hid (take_eq_next hx hy ht.out hxy)
          have g : (x != y) = false := by simpa using hxy
          clear hx hy hxy
          go_wp2_with fail
          go_quiet (fail)
          go_wp2_with fail
          go_roundw
          case rel => exact ⟨k + 1, nd + nq, by omega, by go_num, rfl, NT.out⟩
          case measure => simp [intOf]; omega
        · have FR := Lib.hid (HR.out false ⟨(fun h => by cases h), (fun h => by subst h; rw [hx] at hy; exact absurd (Option.some.inj hy) hxy)⟩)
          have g : (x != y) = true := by simpa using hxy
          clear hx hy hxy
          go_wp2_with fail
          go_quiet (fail)
          go_wp2_with fail
          go_ret
          exact ⟨by rw [FR.out]; rfl, nd + nq, by rw [World.drewN_drewN]⟩
      · have : k = n := by omega
        subst this
        have e : a = b := by
          have := ht.out
          rwa [List.take_of_length_le (by have := HN.out; omega), List.take_of_length_le (by have := HN2.out; omega)] at this
        have FR := Lib.hid (HR.out true ⟨fun _ => e, fun _ => rfl⟩)
        clear e
        go_wp2_with fail
        go_ret
        exact ⟨by rw [FR.out]; rfl, _, rfl⟩
  · have hf : decide (a = b) = false := decide_eq_false (fun h => by subst h; omega)
    have hnn : ((n : Int) != (n2 : Int)) = true := by simp; omega
    rw [hf]
    clear h1 h2 hn1 hn2 hn hnb hf
    go_enter Tryz.func34, Tryz.ntmps34
    go_wp2_with fail
    go_ret
    exact ⟨rfl, 0, rfl⟩
end

section
set_option linter.unusedVariables false
set_option linter.unusedSimpArgs false
set_option linter.unusedSectionVars false
open Go.RowKit

set_option maxRecDepth 100000 in
set_option maxHeartbeats 2000000 in
theorem tsame_any (g h : Int) (v1 v2 : Value) (a b : List Int) (w : World) (h1 : RdI .i64 w v1 a) (h2 : RdI .i64 w v2 b) (hn : a.length ≤ 1000000) (hnb : b.length ≤ 1000000) :
    Calls Tryz.prog 35 #[.agg #[.int .i64 g, v1], .agg #[.int .i64 h, v2]] w fun e w' => e = .returned (.bool (decide (g = h ∧ a = b))) ∧ Keeps w w' [] := by
  obtain ⟨A1, n, c1, rfl, hn1, -⟩ := h1.form
  obtain ⟨A2, n2, c2, rfl, hn2, -⟩ := h2.form
  have H1 := Lib.hid h1
  have H2 := Lib.hid h2
  have HN := Lib.hid hn1
  have HN2 := Lib.hid hn2
  by_cases hgh : g = h
  · subst hgh
    have hgg : (g != g) = false := by simp
    by_cases hne : n = n2
    · subst hne
      have hn' : n ≤ 1000000 := by omega
      have hnn : ((n : Int) != (n : Int)) = false := by simp
      have HR : Hid (∀ r : Bool, (r = true ↔ a = b) → decide (g = g ∧ a = b) = r) := fun r h => by cases r <;> simp_all
      generalize decide (g = g ∧ a = b) = R at *
      have k0 : Keeps w ((w.alloc (.cells #[.int .i64 g, .slice A1 n c1] 27)).alloc (.cells #[.int .i64 g, .slice A2 n c2] 27)) [] := ((Keeps.refl w []).alloc _).alloc _
      have b1 := (Blk.new w #[.int .i64 g, .slice A1 n c1] 27).alloc (.cells #[.int .i64 g, .slice A2 n c2] 27)
      have b2 := Blk.new (w.alloc (.cells #[.int .i64 g, .slice A1 n c1] 27)) #[.int .i64 g, .slice A2 n c2] 27
      simp only [World.size_alloc] at b2
      clear h1 h2 hn1 hn2 hn hnb
      go_enter Tryz.func35, Tryz.ntmps35
      go_wp2_with fail
      generalize ((w.alloc (.cells #[.int .i64 g, .slice A1 n c1] 27)).alloc (.cells #[.int .i64 g, .slice A2 n c2] 27)) = w0 at *
      obtain ⟨p1, p2⟩ := (⟨b1.cell 1, b2.cell 1⟩ : _ ∧ _)
      simp at p1 p2
      go_loopw [5] (fun i wr => ∃ k nd : Nat, k ≤ n ∧ i = .int .i64 k ∧ wr = w0.drewN nd ∧ Hid (a.take k = b.take k)) (fun i _ => n - (intOf i).toNat)
      case atStart => exact ⟨0, 0, Nat.zero_le _, rfl, rfl, rfl⟩
      case round =>
        obtain ⟨k, nd, hk, rfl, rfl, ht⟩ := hrel
        by_cases hlt : k < n
        · obtain ⟨x, hx⟩ : ∃ x, a[k]? = some x := ⟨_, List.getElem?_eq_getElem (by have := HN.out; omega)⟩
          obtain ⟨y, hy⟩ : ∃ y, b[k]? = some y := ⟨_, List.getElem?_eq_getElem (by have := HN2.out; omega)⟩
          obtain ⟨bb, o, rfl, hb, hc⟩ := H1.out.at hx
          obtain ⟨bc, oo, rfl, hbb, hcc⟩ := H2.out.at hy
          have hcap := H1.out.cap
          have hcap2 := H2.out.cap
          have hkn : (k : Int) < (n : Int) := by omega
          have hk0 : (0 : Int) ≤ (k : Int) := Int.natCast_nonneg _
          have hc' := (k0.cell (p := ⟨bb, o + k, none⟩) hb (by simp)).trans hc
          have hcc' := (k0.cell (p := ⟨bc, oo + k, none⟩) hbb (by simp)).trans hcc
          clear hc hcc b1 b2
          by_cases hxy : x = y
          · have NT := Lib.hid (take_eq_next hx hy ht.out hxy)
            have gg : (x != y) = false := by simpa using hxy
            clear hx hy hxy
            go_wp2_with fail
            go_quiet (fail)
            go_wp2_with fail
            go_roundw
            case rel => exact ⟨k + 1, nd + nq, by omega, by go_num, rfl, NT.out⟩
            case measure => simp [intOf]; omega
          · have FR := Lib.hid (HR.out false ⟨(fun h => by cases h), (fun h => by subst h; rw [hx] at hy; exact absurd (Option.some.inj hy) hxy)⟩)
            have gg : (x != y) = true := by simpa using hxy
            clear hx hy hxy
            go_wp2_with fail
            go_quiet (fail)
            go_wp2_with fail
            go_ret
            exact ⟨by rw [FR.out]; rfl, (k0.drewN _).drewN _⟩
        · have : k = n := by omega
          subst this
          have e : a = b := by
            have := ht.out
            rwa [List.take_of_length_le (by have := HN.out; omega), List.take_of_length_le (by have := HN2.out; omega)] at this
          have FR := Lib.hid (HR.out true ⟨fun _ => e, fun _ => rfl⟩)
          clear e b1 b2
          go_wp2_with fail
          go_ret
          exact ⟨by rw [FR.out]; rfl, k0.drewN _⟩
    · have hf : decide (g = g ∧ a = b) = false := decide_eq_false (fun h => by obtain ⟨-, h⟩ := h; subst h; omega)
      have hnn : ((n : Int) != (n2 : Int)) = true := by simp; omega
      rw [hf]
      clear h1 h2 hn1 hn2 hn hnb hf
      go_enter Tryz.func35, Tryz.ntmps35
      go_wp2_with fail
      go_ret
      exact ⟨rfl, ((Keeps.refl w []).alloc _).alloc _⟩
  · have hf : decide (g = h ∧ a = b) = false := decide_eq_false (fun e => hgh e.1)
    have hgg : (g != h) = true := by simpa using hgh
    rw [hf]
    clear h1 h2 hn1 hn2 hn hnb hf
    go_enter Tryz.func35, Tryz.ntmps35
    go_wp2_with fail
    go_ret
    exact ⟨rfl, ((Keeps.refl w []).alloc _).alloc _⟩
end

end Go.Proofs.YtcmagccfagijlaaGreat
