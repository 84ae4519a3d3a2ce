/-
  Walks over package weights: head, halved.
-/
import Derived.Test.YtophgpnnjphnmaaGreatVC
import Derived.Test.YtophgpnnjphnmaaGreatNb
import Derived.Test.YtophgpnnjphnmaaGreatCC
namespace Go.Proofs.YtophgpnnjphnmaaGreat
set_option linter.unusedVariables false
set_option linter.unusedSimpArgs false
set_option linter.unusedSectionVars false
open Go.RowKit

theorem one_news {w : World} {b : Nat} {v : Value} {T : TypeId} (h : Blk w b #[v] T) : ∀ (j : Nat) (u : Value), [v][j]? = some u → w.cell? (Addr.add ⟨b, 0, none⟩ j) = some u := fun j u hj => by
  cases j with
  | zero =>
    obtain rfl : v = u := by simpa using hj
    exact h.cell 0
  | succ j => simp at hj

theorem keeps_row {w0 w1 w2 : World} {v : Value} (h : Keeps w0 w1 []) (k : Keeps w1 w2 (match v.ownBlock with | some g => [g] | none => [])) (hge : ∀ g, v.ownBlock = some g → w0.heap.size ≤ g) : Keeps w0 w2 [] :=
  h.trans k (fun j hj hlt => by
    cases hv : v.ownBlock with
    | none => rw [hv] at hj; simp at hj
    | some g => rw [hv] at hj; simp at hj; have := hge g hv; omega)

/-- append of one byte, just laid, to a slice of the call's own. -/
theorem wpList_app1 {P : Program} {w : World} {ops : Array Oper} {rest : List Oper} {o : Oper} {a : Act} {Q : Exit → Act → World → Prop} (hg : o.guard = none) (s x : Operand) (t : TypeId)
    (ho : o.op = .call { callee := .builtin .append, args := #[s, x], argTypes := #[t, t] })
    (base : Nat) (i : TypeInfo) (ht : P.underlying t = some (.slice 5)) (hi : P.info? 5 = some i) (hz : i.zero = some (.int .u8 0)) (hsize : i.size = 1) (hby : i.bytes = 1)
    (v : Value) (n : Nat) (L : List Int) (y : Int) (B : Nat) (hs : a.eval s = v) (hx : a.eval x = .slice (some ⟨B, 0, none⟩) 1 1) (hB : w.heap.size = B)
    (hown : w.ownsRow base 5 1 v n (L.map (.int .u8))) (h63 : n ≤ 10000000) (hbase : base ≤ w.heap.size)
    (h : ∀ a' c' w', w'.ownsRow base 5 1 (.slice a' (n + 1) c') (n + 1) ((L ++ [y]).map (.int .u8)) → Keeps w w' (match v.ownBlock with | some g => [g] | none => []) → wpList P ops Q rest (a.put o.dst (.slice a' (n + 1) c')) w') :
    wpList P ops Q (o :: rest) a (w.alloc (.cells #[.int .u8 y] 5)) := by
  subst hB
  refine wpList_append_own _ hg s x t ho base _ i (.int .u8 0) 1 1 ht hi hz hsize hby rfl (by decide) v n (L.map (.int .u8)) hs (own_keeps hown ((Keeps.refl w []).alloc _)) _ 1 1 [.int .u8 y] hx rfl (one_news (Blk.new w _ _)) (by simp [Value.oneCell']) (by unfold maxLen; omega) (by omega) (by simp; omega) ?_
  intro v3 w3 h3 g3 _
  obtain ⟨a3, c3, rfl⟩ := own_form h3
  refine h a3 c3 w3 ?_ ?_
  · have : L.map (Value.int .u8) ++ [.int .u8 y] = (L ++ [y]).map (Value.int .u8) := by simp
    rw [this] at h3
    exact h3
  · exact ((Keeps.refl w _).alloc _).trans (Keeps.of_grown g3 (fun k hk => by rw [hk]; simp)) (fun j hj _ => hj)

set_option maxRecDepth 100000 in
set_option maxHeartbeats 2000000 in
theorem whead_any (v : Value) (l : List Int) (way : Int) (w : World) (hv : RdI .i64 w v l) (hl : l.length ≤ 1000000) (h0 : 0 ≤ way) (h1 : way ≤ 255) :
    Calls Tryz.prog 112 #[v, .int .u8 way] w fun e w' => ∃ v', e = .returned v' ∧ OwnB w' w.heap.size v' (varI l.length ++ [way]) ∧ Keeps w w' [] := by
  obtain ⟨i0, hi, hz0, hz1, hz2⟩ := info_parts Tryz.infoByte
  obtain ⟨ad, n, c, rfl, rfl, -⟩ := hv.form
  clear hv
  have HP := Lib.hid (putVarint_any (.slice none 0 0) [] l.length w .nil (by simp) (by omega))
  have HPE : Hid (∀ e w', PutEnd w [] l.length e w' → ∃ v, e = .returned (.tuple #[v, .int .i64 0]) ∧ OwnB w' w.heap.size v (varI l.length) ∧ Keeps w w' []) := fun e w' h => by
    unfold PutEnd at h
    rw [if_neg (by omega)] at h
    simpa using h
  have hlen := varI_len 9 l.length (by omega)
  have hm : (l.length : Int) % 18446744073709551616 = l.length := by omega
  generalize l.length = N at *
  generalize varI N = L at *
  go_enter Tryz.func112, Tryz.ntmps112
  go_wp2_with (go_at_call 118; refine HP.out.mono ?_; intro e w1 he; obtain ⟨v1, rfl, own1, k1⟩ := HPE.out e w1 he; obtain ⟨a1, c1, rfl⟩ := own_form own1)
  refine (wmust_yes _ _ (Blk.newA rfl)).mono ?_
  rintro e w5 ⟨rfl, rfl⟩
  have ow := own_keeps own1 ((Keeps.refl w1 []).alloc (.cells #[.int .i64 0] 24))
  have k5 := k1.alloc (.cells #[.int .i64 0] 24)
  have hs5 := k5.size
  have hfin : (L ++ [way]).length = L.length + 1 := by simp
  clear own1 he
  generalize L.length = N1 at *
  have OW := Lib.hid ow
  have HF := Lib.hid hfin
  clear ow hfin
  go_wp2_with (at_builtin; go_loud (refine wpList_app1 (w := w1.alloc (.cells #[.int .i64 0] 24)) rfl _ _ 36 rfl w.heap.size i0 Tryz.underlying36 hi hz0 hz1 hz2 (.slice a1 N1 c1) N1 L way _ rfl rfl (by simp) OW.out (by omega) hs5 ?_; intro a3 c3 w3 own3 k3))
  go_ret
  exact ⟨_, rfl, by unfold OwnB; rw [HF.out]; exact own3, keeps_row k5 k3 (fun g hg => (OW.out.lt g hg).1)⟩

set_option maxRecDepth 100000 in
set_option maxHeartbeats 4000000 in
theorem halved_any (v : Value) (l : List Int) (w : World) (hv : RdI .i64 w v l) (hl : l.length ≤ 1000000) (hx : ∀ x ∈ l, 0 ≤ x ∧ x ≤ 11) :
    Calls Tryz.prog 80 #[v] w fun e w' => ∃ v', e = .returned v' ∧ OwnB w' w.heap.size v' (halvesL l) ∧ Keeps w w' [] := by
  obtain ⟨i0, hi, hz0, hz1, hz2⟩ := info_parts Tryz.infoByte
  have HV := Lib.hid hv
  have HX := Lib.hid hx
  have HH := Lib.hid (whead_any v l 0 w hv hl (by omega) (by omega))
  obtain ⟨ad, n, c, rfl, hn, -⟩ := hv.form
  have HE : Hid (halvesL l = (varI l.length ++ [0]) ++ nibF (l.take n)) := by show _ = _; rw [hn, List.take_length]; rfl
  have hlen := varI_len 9 l.length (by omega)
  have hvp := varI_pos l.length
  have hhl : (varI l.length ++ [0]).length ≤ 11 ∧ 0 < (varI l.length ++ [0]).length := by simp; omega
  generalize varI l.length ++ [0] = hd at *
  have HN := Lib.hid hn
  rw [← hn] at hl
  clear hv hx hn hlen hvp
  go_enter Tryz.func80, Tryz.ntmps80
  go_wp2_with (refine HH.out.mono ?_; rintro e w1 ⟨v1, rfl, own1, k1⟩; obtain ⟨a1, c1, rfl⟩ := own_form own1)
  obtain ⟨g1, rfl, row1⟩ := rowB_own rfl hhl.2 own1
  clear own1 HH
  obtain ⟨N1, hN1⟩ : ∃ N, N = hd.length := ⟨_, rfl⟩
  rw [← hN1] at row1 hhl ⊢
  have HN1 := Lib.hid hN1
  clear hN1
  go_loopw [3, 10] (fun v i wr => ∃ (k g N c : Nat), k ≤ n ∧ i = .int .i64 k ∧ v = .slice (some ⟨g, 0, none⟩) N c ∧ N ≤ 20 + k ∧ 0 < N ∧ RowB wr w.heap.size g N c (hd ++ nibF (l.take k)) ∧ Keeps w wr []) (fun _ i _ => n - (intOf i).toNat)
  case atStart => exact ⟨0, g1, N1, c1, Nat.zero_le _, rfl, rfl, by omega, by omega, by simpa [nibF] using row1, k1⟩
  case round =>
    clear row1 k1
    obtain ⟨k, g, N, c2, hk, rfl, rfl, hN, hN0, row, kk⟩ := hrel
    by_cases hlt : k < n
    · obtain ⟨x, hx⟩ : ∃ x, l[k]? = some x := ⟨_, List.getElem?_eq_getElem (by have := HN.out; omega)⟩
      obtain ⟨b, o, rfl, hb, hc⟩ := HV.out.at hx
      have hc' := (kk.cell (p := ⟨b, o + k, none⟩) hb (by simp)).trans hc
      have hcap := HV.out.cap
      have hxb := HX.out x (List.mem_of_getElem? hx)
      have hkn : (k : Int) < (n : Int) := by omega
      have hm : x % 256 = x := by omega
      have hs := kk.size
      have ROW := Lib.hid row
      by_cases hev : k % 2 = 0
      · have hev' : ((k : Int) % 2 == 0) = true := by simp; omega
        have HT := Lib.hid (nib_take1 hx hev)
        clear hx hc row
        go_wp2_with (at_builtin; go_loud (refine wpList_app1 (w := wr) rfl _ _ 36 rfl w.heap.size i0 Tryz.underlying36 hi hz0 hz1 hz2 (.slice (some ⟨g, 0, none⟩) N c2) N (hd ++ nibF (l.take k)) x _ rfl rfl rfl ROW.out.2 (by omega) hs ?_; intro a3 c3 w3 own3 k3; obtain ⟨g3, rfl, row3⟩ := rowB_own (L := hd ++ nibF (l.take k) ++ [x]) (by have := ROW.out.1; simp only [List.length_append, List.length_singleton] at this ⊢; omega) (Nat.succ_pos _) own3))
        have kk3 := keeps_row kk k3 (fun g' hg => (ROW.out.2.lt g' hg).1)
        rw [List.append_assoc, ← HT.out] at row3
        clear own3 k3
        go_roundw
        case rel => exact ⟨k + 1, g3, N + 1, c3, by omega, by go_num, rfl, by omega, by omega, row3, kk3⟩
        case measure => simp [intOf]; omega
      · obtain ⟨k', rfl⟩ : ∃ k', k = k' + 1 := ⟨k - 1, by omega⟩
        obtain ⟨N', rfl⟩ : ∃ N', N = N' + 1 := ⟨N - 1, by omega⟩
        have hev' : (((k' + 1 : Nat) : Int) % 2 == 0) = false := by simp; omega
        obtain ⟨y, hy⟩ : ∃ y, l[k']? = some y := ⟨_, List.getElem?_eq_getElem (by have := HN.out; omega)⟩
        have hyb := HX.out y (List.mem_of_getElem? hy)
        obtain ⟨q1, q2⟩ := nib_set hd hy hx (by omega)
        have hNl := row.1
        rw [hNl, Nat.add_sub_cancel] at q1 q2
        have cy := row.at q1
        have fy := row.frozen N'
        have hcg := row.cap
        have hgl := row.lt
        have hor := or_nib hyb.1 (by omega) hxb.1 (by omega : x ≤ 15)
        have hw : wrap64 (x * 16) = x * 16 := IntWalk.wrap64_in _ ⟨by omega, by omega⟩
        have hm2 : x * 16 % 256 = x * 16 := by omega
        have row3 := Lib.hid (row.set N' (y + 16 * x))
        rw [q2] at row3
        have kk3 := Lib.hid (kk.setCell (a := ⟨g, N', none⟩) (.inl hgl.1) (.int .u8 (y + 16 * x)))
        clear hx hc row hy q1 q2 hNl
        go_wp2_with fail
        go_roundw
        case rel => exact ⟨k' + 1 + 1, g, N' + 1, c2, by omega, by go_num, rfl, by omega, by omega, row3.out, kk3.out⟩
        case measure => simp [intOf]; omega
    · obtain rfl : k = n := by omega
      rw [← HE.out] at row
      have ROW := Lib.hid row
      have HNN := Lib.hid row.1
      clear row
      go_wp2_with fail
      go_ret
      exact ⟨_, rfl, by unfold OwnB; rw [HNN.out]; exact ROW.out.2, kk⟩

end Go.Proofs.YtophgpnnjphnmaaGreat
